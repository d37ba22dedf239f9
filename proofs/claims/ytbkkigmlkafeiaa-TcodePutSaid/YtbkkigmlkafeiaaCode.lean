/- The functions of the seat Ytbkkigmlkafeiaa as code of PI (printed by gen2.py), and that they are what the program has. -/
import Derived.Test.YtbkkigmlkafeiaaProg
import Derived.Test.YtbkkigmlkafeiaaFw3
import Derived.Test.YtbkkigmlkafeiaaFw4
set_option linter.unusedVariables false
namespace Pi
variable {u y z : List V} {m : Sto} {x : Nat}

abbrev law14_TcodePut.n : Nat := 5
abbrev law14_awake.n : Nat := 14
abbrev law14_get.n : Nat := 15
abbrev ref13_Parts.n : Nat := 16
abbrev ref02_Nodes.n : Nat := 17
abbrev law13_Made.n : Nat := 18
abbrev tcode_Put.n : Nat := 19
abbrev ref14_Put.n : Nat := 20
abbrev law14_full.n : Nat := 21
abbrev tcode_Get.n : Nat := 22
abbrev ref13_Same.n : Nat := 23
abbrev law02_Maker_Level.n : Nat := 26
abbrev law13_Bind.n : Nat := 33
abbrev law13_Sort.n : Nat := 34
abbrev law13_Var.n : Nat := 35
abbrev ref14_Get.n : Nat := 36
abbrev law13_Term.n : Nat := 37
abbrev term_Right.n : Nat := 38
abbrev tcode_writer_term.n : Nat := 39
abbrev strings_Builder_String.n : Nat := 40
abbrev ref13_Shape.n : Nat := 41
abbrev ref14_text.n : Nat := 42
abbrev tcode_Get_1.n : Nat := 43
abbrev tcode_reader_term.n : Nat := 44
abbrev ref02_Same.n : Nat := 45
abbrev law02_Maker_Pick.n : Nat := 51
abbrev level_Right.n : Nat := 52
abbrev ref02_Right.n : Nat := 57
abbrev ref02_naturals.n : Nat := 58
abbrev ref02_Value.n : Nat := 59
abbrev ref14_reader_term.n : Nat := 65
abbrev term_room_fits.n : Nat := 66
abbrev tcode_writer_number.n : Nat := 67
abbrev lcode_Put.n : Nat := 68
abbrev strings_Builder_WriteString.n : Nat := 69
abbrev ref13_Right.n : Nat := 70
abbrev ref14_num.n : Nat := 71
abbrev ref03_Put.n : Nat := 72
abbrev tcode_reader_fail.n : Nat := 73
abbrev tcode_reader_number.n : Nat := 74
abbrev tcode_readers.n : Nat := 75
abbrev level_nodes.n : Nat := 84
abbrev level_right.n : Nat := 85
abbrev ref02_right.n : Nat := 91
abbrev ref14_reader_number.n : Nat := 93
abbrev ref14_reader_level.n : Nat := 94
abbrev term_parts.n : Nat := 95
abbrev term_room_right.n : Nat := 96
abbrev octet_Put.n : Nat := 97
abbrev lcode_write.n : Nat := 98
abbrev strings_Builder_copyCheck.n : Nat := 99
abbrev ref13_right.n : Nat := 100
abbrev ref01_Put.n : Nat := 101
abbrev ref03_text.n : Nat := 102
abbrev octet_Get.n : Nat := 103
abbrev tcode_reader_variable.n : Nat := 104
abbrev tcode_reader_sort.n : Nat := 105
abbrev tcode_reader_constant.n : Nat := 106
abbrev tcode_reader_apply.n : Nat := 107
abbrev tcode_reader_bind.n : Nat := 108
abbrev tcode_reader_let.n : Nat := 109
abbrev slices_IndexFunc_Con.n : Nat := 110
abbrev level_kinds.n : Nat := 115
abbrev level_right_1.n : Nat := 116
abbrev level_named.n : Nat := 117
abbrev slices_ContainsFunc_Level.n : Nat := 118
abbrev slices_AppendSeq_Clause.n : Nat := 122
abbrev ref02_kids.n : Nat := 127
abbrev ref01_Get.n : Nat := 128
abbrev ref03_Get.n : Nat := 129
abbrev term_room_right_1.n : Nat := 130
abbrev term_shapes.n : Nat := 131
abbrev term_room_named.n : Nat := 132
abbrev term_below.n : Nat := 133
abbrev octet_digits.n : Nat := 134
abbrev lcode_write_1.n : Nat := 135
abbrev lcode_named.n : Nat := 136
abbrev ref13_kids.n : Nat := 138
abbrev ref13_named.n : Nat := 139
abbrev ref13_binds.n : Nat := 140
abbrev tcode_reader_levels.n : Nat := 141
abbrev tcode_reader_kids.n : Nat := 142
abbrev level_kinds_1.n : Nat := 150
abbrev level_kinds_2.n : Nat := 151
abbrev level_kinds_3.n : Nat := 152
abbrev level_kinds_4.n : Nat := 153
abbrev level_imax.n : Nat := 154
abbrev level_kinds_5.n : Nat := 155
abbrev level_kinds_6.n : Nat := 156
abbrev slices_IndexFunc_Level.n : Nat := 157
abbrev ref03_reader_level.n : Nat := 169
abbrev octet_digits_1.n : Nat := 170
abbrev lcode_Get.n : Nat := 171
abbrev slices_IndexFunc_Clause.n : Nat := 173
abbrev ref03_reader_number.n : Nat := 178
abbrev lcode_Get_1.n : Nat := 179
abbrev lcode_reader_level.n : Nat := 180
abbrev math_bits_Mul.n : Nat := 181
abbrev slices_Grow_Atom.n : Nat := 182
abbrev lcode_want.n : Nat := 184
abbrev lcode_reader_number.n : Nat := 185
abbrev math_bits_Mul32.n : Nat := 186
abbrev math_bits_Mul64.n : Nat := 187
def law14_TcodeGet.c : PFun := ⟨(.seq (.reg [.seq [⟨some 4,.mv (.c (.b false)),none⟩]]) (.seq (.reg [.seq [⟨some 5,.ca (.c (.fn (.func law14_awake.n) [] [])) [],none⟩,⟨some 6,.mv (.t 5),none⟩,⟨some 7,.mv (.t 0),some (6,true)⟩,⟨some 8,.ln .s (.t 7),some (6,true)⟩,⟨some 9,.bi .gtr (.t 8) (.c (.i .i64 300)),some (6,true)⟩,⟨some 10,.mv (.t 9),some (6,true)⟩,⟨some 11,.mv (.t 0),some (10,false)⟩,⟨some 12,.mv (.t 1),some (10,false)⟩,⟨some 13,.ca (.c (.fn (.func law14_get.n) [] [])) [.t 11,.t 12],some (10,false)⟩,⟨some 14,.mv (.t 13),some (10,false)⟩,⟨some 15,.mv (.t 0),some (14,true)⟩,⟨some 16,.ca (.c (.fn (.func law14_get.n) [] [])) [.t 15,.c (.i .i64 0)],some (14,true)⟩,⟨some 17,.pk (.t 14) (.t 16) (.c (.b false)),some (10,false)⟩,⟨some 18,.mv (.t 17),some (10,false)⟩,⟨some 19,.mv (.t 0),some (18,true)⟩,⟨some 20,.bi .add (.c (.s (bs [5,2,1]))) (.t 19),some (18,true)⟩,⟨some 21,.ca (.c (.fn (.func law14_get.n) [] [])) [.t 20,.c (.i .i64 0)],some (18,true)⟩,⟨some 22,.pk (.t 18) (.t 21) (.c (.b false)),some (10,false)⟩,⟨some 23,.mv (.t 22),some (10,false)⟩,⟨some 24,.mv (.t 0),some (23,true)⟩,⟨some 25,.bi .add (.c (.s (bs [3]))) (.t 24),some (23,true)⟩,⟨some 26,.ca (.c (.fn (.func law14_get.n) [] [])) [.t 25,.c (.i .i64 0)],some (23,true)⟩,⟨some 27,.pk (.t 23) (.t 26) (.c (.b false)),some (10,false)⟩,⟨some 28,.pk (.t 10) (.c (.b true)) (.t 27),some (6,true)⟩,⟨some 29,.pk (.t 6) (.t 28) (.c (.b false)),none⟩,⟨some 4,.mv (.t 29),none⟩]]) .ret)), [.t 4]⟩
def law14_TcodeSmall.b1 : PCode := (.seq (.seq (.reg [.seq [⟨some 5,.mv (.t 4),none⟩,⟨some 6,.mv (.t 0),none⟩,⟨some 7,.ln .l (.t 6),none⟩,⟨some 8,.bi .lss (.t 5) (.t 7),none⟩,⟨some 9,.mv (.t 8),none⟩,⟨some 10,.mv (.t 4),some (9,true)⟩,⟨some 11,.bi .lss (.t 10) (.c (.i .i64 24)),some (9,true)⟩,⟨some 12,.pk (.t 9) (.t 11) (.c (.b false)),none⟩]]) (.cond (.t 12) .skip (.exit 0))) (.seq (.block 1 (.reg [.seq [⟨some 15,.mv (.t 3),none⟩,⟨some 16,.bs 1 14 [.i .u8 0] [(0,1,.c (.i .u8 1)),(1,1,.c (.i .u8 0)),(2,1,.c (.i .u8 2)),(3,1,.c (.i .u8 1)),(4,1,.c (.i .u8 3)),(5,1,.c (.i .u8 4)),(6,1,.c (.i .u8 5)),(7,1,.c (.i .u8 6)),(8,1,.c (.i .u8 7)),(9,1,.c (.i .u8 2)),(10,1,.c (.i .u8 1)),(11,1,.c (.i .u8 1)),(12,1,.c (.i .u8 20)),(13,1,.c (.i .u8 128))],none⟩,⟨some 17,.mv (.t 0),none⟩,⟨some 18,.mv (.t 4),none⟩,⟨some 19,.ia 1 (.t 17) (.t 18),none⟩,⟨some 20,.ld false 1 (.t 19),none⟩,⟨some 21,.ci .i64 (.t 20),none⟩,⟨some 22,.bi .rem (.t 21) (.c (.i .i64 14)),none⟩,⟨some 23,.ia 1 (.t 16) (.t 22),none⟩,⟨some 24,.ld false 1 (.t 23),none⟩,⟨some 25,.bs 1 1 [.i .u8 0] [(0,1,.t 24)],none⟩,⟨some 26,.cbs (.t 25),none⟩,⟨some 27,.bi .add (.t 15) (.t 26),none⟩,⟨some 3,.mv (.t 27),none⟩]])) (.reg [.seq [⟨some 13,.mv (.t 4),none⟩,⟨some 14,.bi .add (.t 13) (.c (.i .i64 1)),none⟩,⟨some 4,.mv (.t 14),none⟩]])))
def law14_TcodeSmall.c : PFun := ⟨(.seq (.reg [.seq [⟨some 2,.mv (.c (.b false)),none⟩]]) (.seq (.reg [.seq [⟨some 3,.mv (.c (.s (bs []))),none⟩]]) (.seq (.seq (.reg [.seq [⟨some 4,.mv (.c (.i .i64 0)),none⟩]]) (.block 0 (.loop law14_TcodeSmall.b1))) (.seq (.reg [.seq [⟨some 28,.ca (.c (.fn (.func law14_awake.n) [] [])) [],none⟩,⟨some 29,.mv (.t 28),none⟩,⟨some 30,.mv (.t 3),some (29,true)⟩,⟨some 31,.ca (.c (.fn (.func law14_get.n) [] [])) [.t 30,.c (.i .i64 0)],some (29,true)⟩,⟨some 32,.pk (.t 29) (.t 31) (.c (.b false)),none⟩,⟨some 33,.mv (.t 32),none⟩,⟨some 34,.mv (.t 3),some (33,true)⟩,⟨some 35,.bi .add (.c (.s (bs [4]))) (.t 34),some (33,true)⟩,⟨some 36,.bi .add (.t 35) (.c (.s (bs [1,0,1,0,1,0]))),some (33,true)⟩,⟨some 37,.ca (.c (.fn (.func law14_get.n) [] [])) [.t 36,.c (.i .i64 0)],some (33,true)⟩,⟨some 38,.pk (.t 33) (.t 37) (.c (.b false)),none⟩,⟨some 2,.mv (.t 38),none⟩]]) .ret)))), [.t 2]⟩
def law14_TcodePut.b1 : PCode := (.seq (.seq (.reg [.seq [⟨some 15,.mv (.t 6),none⟩,⟨some 16,.fa 2 (.t 2),none⟩,⟨some 17,.ld false 1 (.t 16),none⟩,⟨some 18,.ln .l (.t 17),none⟩,⟨some 19,.bi .lss (.t 15) (.t 18),none⟩,⟨some 20,.mv (.t 19),none⟩,⟨some 21,.mv (.t 5),some (20,true)⟩,⟨some 22,.bi .leq (.t 21) (.c (.i .i64 1000)),some (20,true)⟩,⟨some 23,.pk (.t 20) (.t 22) (.c (.b false)),none⟩]]) (.cond (.t 23) .skip (.exit 0))) (.seq (.block 1 (.reg [.seq [⟨some 26,.mv (.t 5),none⟩,⟨some 27,.fa 2 (.t 2),none⟩,⟨some 28,.ld false 1 (.t 27),none⟩,⟨some 29,.mv (.t 6),none⟩,⟨some 30,.ia 3 (.t 28) (.t 29),none⟩,⟨some 31,.ld true 3 (.t 30),none⟩,⟨some 32,.ca (.c (.fn (.func ref02_Nodes.n) [] [])) [.t 31,.c (.i .i64 1001)],none⟩,⟨some 33,.bi .add (.t 26) (.t 32),none⟩,⟨some 5,.mv (.t 33),none⟩]])) (.reg [.seq [⟨some 24,.mv (.t 6),none⟩,⟨some 25,.bi .add (.t 24) (.c (.i .i64 1)),none⟩,⟨some 6,.mv (.t 25),none⟩]])))
def law14_TcodePut.b2 : PCode := (.seq (.reg [.seq [⟨some 43,.bi .lss (.t 42) (.t 41),none⟩]]) (.seq (.cond (.t 43) .skip (.exit 2)) (.seq (.block 3 (.seq (.reg [.seq [⟨some 44,.ia 4 (.t 40) (.t 42),none⟩,⟨some 45,.ld true 4 (.t 44),none⟩,⟨some 8,.al [.i .i64 0,.i .i64 0,.ns,.ns],none⟩,⟨none,.st 4 (.t 8) (.t 45),none⟩]]) (.seq (.reg [.seq [⟨some 47,.ld true 4 (.t 8),none⟩,⟨some 48,.ca (.c (.fn (.func tcode_Put.n) [] [])) [.t 47],none⟩,⟨some 46,.mv (.t 48),none⟩,⟨some 49,.ex (.t 46) 0,none⟩,⟨some 50,.ex (.t 46) 1,none⟩,⟨some 9,.mv (.t 49),none⟩,⟨some 10,.mv (.t 50),none⟩]]) (.seq (.reg [.seq [⟨some 52,.ld true 4 (.t 8),none⟩,⟨some 53,.ca (.c (.fn (.func ref14_Put.n) [] [])) [.t 52],none⟩,⟨some 51,.mv (.t 53),none⟩,⟨some 54,.ex (.t 51) 0,none⟩,⟨some 55,.ex (.t 51) 1,none⟩,⟨some 11,.mv (.t 54),none⟩,⟨some 12,.mv (.t 55),none⟩]]) (.seq (.reg [.seq [⟨some 56,.mv (.t 9),none⟩,⟨some 57,.mv (.t 11),none⟩,⟨some 58,.bi .neq (.t 56) (.t 57),none⟩,⟨some 59,.mv (.t 58),none⟩,⟨some 60,.mv (.t 10),some (59,false)⟩,⟨some 61,.mv (.t 12),some (59,false)⟩,⟨some 62,.bi .neq (.t 60) (.t 61),some (59,false)⟩,⟨some 63,.pk (.t 59) (.c (.b true)) (.t 62),none⟩]]) (.cond (.t 63) (.seq (.reg [.seq [⟨some 4,.mv (.c (.b false)),none⟩]]) .ret) .skip)))))) (.reg [.seq [⟨some 64,.bi .add (.t 42) (.c (.i .i64 1)),none⟩,⟨some 42,.mv (.t 64),none⟩]]))))
def law14_TcodePut.c : PFun := ⟨(.seq (.reg [.seq [⟨some 2,.bx (.t 0),none⟩,⟨some 4,.mv (.c (.b false)),none⟩]]) (.seq (.reg [.seq [⟨some 13,.ld true 4 (.t 2),none⟩,⟨some 14,.ca (.c (.fn (.func ref13_Parts.n) [] [])) [.t 13,.c (.i .i64 1001)],none⟩,⟨some 5,.mv (.t 14),none⟩]]) (.seq (.seq (.reg [.seq [⟨some 6,.mv (.c (.i .i64 0)),none⟩]]) (.block 0 (.loop law14_TcodePut.b1))) (.seq (.seq (.reg [.seq [⟨some 34,.mv (.t 5),none⟩,⟨some 35,.bi .gtr (.t 34) (.c (.i .i64 1000)),none⟩]]) (.cond (.t 35) (.seq (.reg [.seq [⟨some 36,.ca (.c (.fn (.func law14_awake.n) [] [])) [],none⟩,⟨some 4,.mv (.t 36),none⟩]]) .ret) .skip)) (.seq (.seq (.reg [.any [⟨some 37,.ld true 4 (.t 2),none⟩,⟨some 38,.mv (.t 1),none⟩,⟨some 39,.ca (.c (.fn (.func law13_Made.n) [] [])) [.t 38],none⟩,⟨some 40,.bs 4 2 [.i .i64 0,.i .i64 0,.ns,.ns] [(0,4,.t 37),(4,4,.t 39)],none⟩,⟨some 41,.ln .l (.t 40),none⟩,⟨some 42,.mv (.c (.i .i64 0)),none⟩] [(0,2)]]) (.block 2 (.loop law14_TcodePut.b2))) (.seq (.reg [.seq [⟨some 65,.ca (.c (.fn (.func law14_awake.n) [] [])) [],none⟩,⟨some 4,.mv (.t 65),none⟩]]) .ret)))))), [.t 4]⟩
def law14_TcodeDeep.b1 : PCode := (.seq (.seq (.reg [.seq [⟨some 30,.mv (.t 6),none⟩,⟨some 31,.mv (.t 0),none⟩,⟨some 32,.ci .i64 (.t 31),none⟩,⟨some 33,.bi .rem (.t 32) (.c (.i .i64 35)),none⟩,⟨some 34,.bi .lss (.t 30) (.t 33),none⟩]]) (.cond (.t 34) .skip (.exit 1))) (.seq (.block 2 (.reg [.seq [⟨some 37,.mv (.t 5),none⟩,⟨some 38,.bs 1 3 [.s (bs [])] [(0,1,.c (.s (bs [4,1,0]))),(1,1,.c (.s (bs [5,2,1]))),(2,1,.c (.s (bs [7,2,1,2,1])))],none⟩,⟨some 39,.mv (.t 1),none⟩,⟨some 40,.ci .i64 (.t 39),none⟩,⟨some 41,.bi .quo (.t 40) (.c (.i .i64 3)),none⟩,⟨some 42,.bi .rem (.t 41) (.c (.i .i64 3)),none⟩,⟨some 43,.ia 1 (.t 38) (.t 42),none⟩,⟨some 44,.ld false 1 (.t 43),none⟩,⟨some 45,.bi .add (.t 37) (.t 44),none⟩,⟨some 5,.mv (.t 45),none⟩]])) (.reg [.seq [⟨some 35,.mv (.t 6),none⟩,⟨some 36,.bi .add (.t 35) (.c (.i .i64 1)),none⟩,⟨some 6,.mv (.t 36),none⟩]])))
def law14_TcodeDeep.b2 : PCode := (.seq (.seq (.reg [.seq [⟨some 50,.mv (.t 7),none⟩,⟨some 51,.mv (.t 0),none⟩,⟨some 52,.ci .i64 (.t 51),none⟩,⟨some 53,.bi .rem (.t 52) (.c (.i .i64 10)),none⟩,⟨some 54,.bi .add (.c (.i .i64 297)) (.t 53),none⟩,⟨some 55,.bi .lss (.t 50) (.t 54),none⟩]]) (.cond (.t 55) .skip (.exit 3))) (.seq (.block 4 (.seq (.seq (.reg [.seq [⟨some 58,.mv (.t 7),none⟩,⟨some 59,.bi .rem (.t 58) (.c (.i .i64 20)),none⟩,⟨some 60,.bi .eql (.t 59) (.c (.i .i64 0)),none⟩]]) (.cond (.t 60) (.reg [.seq [⟨some 61,.mv (.t 5),none⟩,⟨some 62,.bi .add (.t 61) (.c (.s (bs [4]))),none⟩,⟨some 5,.mv (.t 62),none⟩]]) (.reg [.seq [⟨some 63,.mv (.t 5),none⟩,⟨some 64,.bi .add (.t 63) (.c (.s (bs [4,1,0]))),none⟩,⟨some 5,.mv (.t 64),none⟩]]))) (.seq (.reg [.seq [⟨some 65,.mv (.t 7),none⟩,⟨some 66,.bi .rem (.t 65) (.c (.i .i64 20)),none⟩,⟨some 67,.bi .eql (.t 66) (.c (.i .i64 19)),none⟩]]) (.cond (.t 67) (.reg [.seq [⟨some 68,.mv (.t 5),none⟩,⟨some 69,.bi .add (.t 68) (.c (.s (bs [1,0]))),none⟩,⟨some 5,.mv (.t 69),none⟩]]) .skip)))) (.reg [.seq [⟨some 56,.mv (.t 7),none⟩,⟨some 57,.bi .add (.t 56) (.c (.i .i64 1)),none⟩,⟨some 7,.mv (.t 57),none⟩]])))
def law14_TcodeDeep.c : PFun := ⟨(.seq (.reg [.seq [⟨some 4,.mv (.c (.b false)),none⟩]]) (.seq (.reg [.seq [⟨some 5,.mv (.c (.s (bs []))),none⟩]]) (.seq (.seq (.reg [.seq [⟨some 8,.mv (.t 1),none⟩,⟨some 9,.bi .rem (.t 8) (.c (.i .u8 3)),none⟩]]) (.block 0 (.seq (.reg [.seq [⟨some 29,.bi .eql (.t 9) (.c (.i .u8 0)),none⟩,⟨some 28,.mv (.t 29),none⟩]]) (.cond (.t 28) (.seq (.seq (.reg [.seq [⟨some 6,.mv (.c (.i .i64 0)),none⟩]]) (.block 1 (.loop law14_TcodeDeep.b1))) (.reg [.seq [⟨some 46,.mv (.t 5),none⟩,⟨some 47,.bi .add (.t 46) (.c (.s (bs [1,0]))),none⟩,⟨some 5,.mv (.t 47),none⟩]])) (.seq (.reg [.seq [⟨some 49,.bi .eql (.t 9) (.c (.i .u8 1)),none⟩,⟨some 48,.mv (.t 49),none⟩]]) (.cond (.t 48) (.seq (.seq (.reg [.seq [⟨some 7,.mv (.c (.i .i64 0)),none⟩]]) (.block 3 (.loop law14_TcodeDeep.b2))) (.reg [.seq [⟨some 70,.mv (.t 5),none⟩,⟨some 71,.bi .add (.t 70) (.c (.s (bs [1,0,1,0]))),none⟩,⟨some 5,.mv (.t 71),none⟩]])) (.reg [.seq [⟨some 10,.mv (.t 0),none⟩,⟨some 11,.ci .i64 (.t 10),none⟩,⟨some 12,.bi .rem (.t 11) (.c (.i .i64 3)),none⟩,⟨some 13,.bi .add (.c (.i .i64 1000)) (.t 12),none⟩,⟨some 14,.bi .sub (.t 13) (.c (.i .i64 1)),none⟩,⟨some 15,.bi .rem (.t 14) (.c (.i .i64 128)),none⟩,⟨some 16,.bi .add (.c (.i .i64 128)) (.t 15),none⟩,⟨some 17,.ci .u8 (.t 16),none⟩,⟨some 18,.mv (.t 0),none⟩,⟨some 19,.ci .i64 (.t 18),none⟩,⟨some 20,.bi .rem (.t 19) (.c (.i .i64 3)),none⟩,⟨some 21,.bi .add (.c (.i .i64 1000)) (.t 20),none⟩,⟨some 22,.bi .sub (.t 21) (.c (.i .i64 1)),none⟩,⟨some 23,.bi .quo (.t 22) (.c (.i .i64 128)),none⟩,⟨some 24,.ci .u8 (.t 23),none⟩,⟨some 25,.bs 1 2 [.i .u8 0] [(0,1,.t 17),(1,1,.t 24)],none⟩,⟨some 26,.cbs (.t 25),none⟩,⟨some 27,.bi .add (.c (.s (bs [5,2,1,1]))) (.t 26),none⟩,⟨some 5,.mv (.t 27),none⟩]]))))))) (.seq (.reg [.seq [⟨some 72,.ca (.c (.fn (.func law14_awake.n) [] [])) [],none⟩,⟨some 73,.mv (.t 72),none⟩,⟨some 74,.mv (.t 5),some (73,true)⟩,⟨some 75,.ca (.c (.fn (.func law14_get.n) [] [])) [.t 74,.c (.i .i64 0)],some (73,true)⟩,⟨some 76,.pk (.t 73) (.t 75) (.c (.b false)),none⟩,⟨some 77,.mv (.t 76),none⟩,⟨some 78,.ca (.c (.fn (.func law14_full.n) [] [])) [.c (.i .i64 9)],some (77,true)⟩,⟨some 79,.mv (.t 5),some (77,true)⟩,⟨some 80,.bi .add (.t 78) (.t 79),some (77,true)⟩,⟨some 81,.ca (.c (.fn (.func law14_get.n) [] [])) [.t 80,.c (.i .i64 0)],some (77,true)⟩,⟨some 82,.pk (.t 77) (.t 81) (.c (.b false)),none⟩,⟨some 83,.mv (.t 82),none⟩,⟨some 84,.ca (.c (.fn (.func law14_full.n) [] [])) [.c (.i .i64 8)],some (83,true)⟩,⟨some 85,.bi .add (.c (.s (bs [4]))) (.t 84),some (83,true)⟩,⟨some 86,.mv (.t 0),some (83,true)⟩,⟨some 87,.ci .i64 (.t 86),some (83,true)⟩,⟨some 88,.bi .rem (.t 87) (.c (.i .i64 8)),some (83,true)⟩,⟨some 89,.ca (.c (.fn (.func law14_full.n) [] [])) [.t 88],some (83,true)⟩,⟨some 90,.bi .add (.t 85) (.t 89),some (83,true)⟩,⟨some 91,.ca (.c (.fn (.func law14_get.n) [] [])) [.t 90,.c (.i .i64 0)],some (83,true)⟩,⟨some 92,.pk (.t 83) (.t 91) (.c (.b false)),none⟩,⟨some 4,.mv (.t 92),none⟩]]) .ret)))), [.t 4]⟩
def law14_TcodeBack.c : PFun := ⟨(.seq (.reg [.seq [⟨some 6,.mv (.c (.b false)),none⟩]]) (.seq (.reg [.seq [⟨some 17,.ca (.c (.fn (.func law14_awake.n) [] [])) [],none⟩,⟨some 7,.mv (.t 17),none⟩]]) (.seq (.seq (.reg [.seq [⟨some 18,.mv (.t 7),none⟩,⟨some 19,.un .not (.t 18),none⟩]]) (.cond (.t 19) (.seq (.reg [.seq [⟨some 6,.mv (.c (.b false)),none⟩]]) .ret) .skip)) (.seq (.seq (.reg [.seq [⟨some 20,.mv (.t 1),none⟩,⟨some 21,.ln .s (.t 20),none⟩,⟨some 22,.bi .gtr (.t 21) (.c (.i .i64 100)),none⟩]]) (.cond (.t 22) (.reg [.seq [⟨some 1,.mv (.c (.s (bs []))),none⟩]]) .skip)) (.seq (.reg [.seq [⟨some 23,.mv (.t 0),none⟩,⟨some 24,.ca (.c (.fn (.func law13_Made.n) [] [])) [.t 23],none⟩,⟨some 8,.al [.i .i64 0,.i .i64 0,.ns,.ns],none⟩,⟨none,.st 4 (.t 8) (.t 24),none⟩]]) (.seq (.reg [.seq [⟨some 26,.ld true 4 (.t 8),none⟩,⟨some 27,.ca (.c (.fn (.func tcode_Put.n) [] [])) [.t 26],none⟩,⟨some 25,.mv (.t 27),none⟩,⟨some 28,.ex (.t 25) 0,none⟩,⟨some 29,.ex (.t 25) 1,none⟩,⟨some 9,.mv (.t 28),none⟩,⟨some 10,.mv (.t 29),none⟩]]) (.seq (.reg [.seq [⟨some 31,.mv (.t 9),none⟩,⟨some 32,.mv (.t 1),none⟩,⟨some 33,.bi .add (.t 31) (.t 32),none⟩,⟨some 34,.ca (.c (.fn (.func tcode_Get.n) [] [])) [.t 33,.c (.i .i64 0)],none⟩,⟨some 30,.mv (.t 34),none⟩,⟨some 35,.ex (.t 30) 0,none⟩,⟨some 36,.ex (.t 30) 1,none⟩,⟨some 37,.ex (.t 30) 2,none⟩,⟨some 11,.al [.i .i64 0,.i .i64 0,.ns,.ns],none⟩,⟨none,.st 4 (.t 11) (.t 35),none⟩,⟨some 12,.mv (.t 36),none⟩,⟨some 13,.mv (.t 37),none⟩]]) (.seq (.seq (.reg [.seq [⟨some 38,.mv (.t 10),none⟩,⟨some 39,.bi .neq (.t 38) (.c (.i .i64 0)),none⟩,⟨some 40,.mv (.t 39),none⟩,⟨some 41,.mv (.t 13),some (40,false)⟩,⟨some 42,.bi .neq (.t 41) (.c (.i .i64 0)),some (40,false)⟩,⟨some 43,.pk (.t 40) (.c (.b true)) (.t 42),none⟩,⟨some 44,.mv (.t 43),none⟩,⟨some 45,.mv (.t 12),some (44,false)⟩,⟨some 46,.mv (.t 9),some (44,false)⟩,⟨some 47,.ln .s (.t 46),some (44,false)⟩,⟨some 48,.bi .neq (.t 45) (.t 47),some (44,false)⟩,⟨some 49,.pk (.t 44) (.c (.b true)) (.t 48),none⟩,⟨some 50,.mv (.t 49),none⟩,⟨some 51,.ld true 4 (.t 8),some (50,false)⟩,⟨some 52,.ld true 4 (.t 11),some (50,false)⟩,⟨some 53,.ca (.c (.fn (.func ref13_Same.n) [] [])) [.t 51,.t 52],some (50,false)⟩,⟨some 54,.un .not (.t 53),some (50,false)⟩,⟨some 55,.pk (.t 50) (.c (.b true)) (.t 54),none⟩]]) (.cond (.t 55) (.seq (.reg [.seq [⟨some 6,.mv (.c (.b false)),none⟩]]) .ret) .skip)) (.seq (.reg [.seq [⟨some 57,.mv (.t 9),none⟩,⟨some 58,.mv (.t 2),none⟩,⟨some 59,.ci .i64 (.t 58),none⟩,⟨some 60,.mv (.t 9),none⟩,⟨some 61,.ln .s (.t 60),none⟩,⟨some 62,.bi .rem (.t 59) (.t 61),none⟩,⟨some 63,.ss (.t 57) none (some (.t 62)),none⟩,⟨some 64,.ca (.c (.fn (.func tcode_Get.n) [] [])) [.t 63,.c (.i .i64 0)],none⟩,⟨some 56,.mv (.t 64),none⟩,⟨some 65,.ex (.t 56) 0,none⟩,⟨some 66,.ex (.t 56) 1,none⟩,⟨some 67,.ex (.t 56) 2,none⟩,⟨some 14,.al [.i .i64 0,.i .i64 0,.ns,.ns],none⟩,⟨none,.st 4 (.t 14) (.t 65),none⟩,⟨some 15,.mv (.t 66),none⟩,⟨some 16,.mv (.t 67),none⟩]]) (.seq (.reg [.seq [⟨some 68,.mv (.t 7),none⟩,⟨some 69,.mv (.t 68),none⟩,⟨some 70,.mv (.t 16),some (69,true)⟩,⟨some 71,.bi .eql (.t 70) (.c (.i .i64 21)),some (69,true)⟩,⟨some 72,.pk (.t 69) (.t 71) (.c (.b false)),none⟩,⟨some 6,.mv (.t 72),none⟩]]) .ret)))))))))), [.t 6]⟩
def law14_TcodeOnce.b1 : PCode := (.seq (.seq (.reg [.seq [⟨some 23,.mv (.t 8),none⟩,⟨some 24,.mv (.t 1),none⟩,⟨some 25,.ln .l (.t 24),none⟩,⟨some 26,.bi .lss (.t 23) (.t 25),none⟩,⟨some 27,.mv (.t 26),none⟩,⟨some 28,.mv (.t 8),some (27,true)⟩,⟨some 29,.bi .lss (.t 28) (.c (.i .i64 40)),some (27,true)⟩,⟨some 30,.pk (.t 27) (.t 29) (.c (.b false)),none⟩]]) (.cond (.t 30) .skip (.exit 0))) (.seq (.block 1 (.reg [.seq [⟨some 33,.mv (.t 0),none⟩,⟨some 34,.bs 1 8 [.i .u8 0] [(0,1,.c (.i .u8 4)),(1,1,.c (.i .u8 1)),(2,1,.c (.i .u8 0)),(3,1,.c (.i .u8 2)),(4,1,.c (.i .u8 1)),(5,1,.c (.i .u8 5)),(6,1,.c (.i .u8 6)),(7,1,.c (.i .u8 1))],none⟩,⟨some 35,.mv (.t 1),none⟩,⟨some 36,.mv (.t 8),none⟩,⟨some 37,.ia 1 (.t 35) (.t 36),none⟩,⟨some 38,.ld false 1 (.t 37),none⟩,⟨some 39,.ci .i64 (.t 38),none⟩,⟨some 40,.bi .rem (.t 39) (.c (.i .i64 8)),none⟩,⟨some 41,.ia 1 (.t 34) (.t 40),none⟩,⟨some 42,.ld false 1 (.t 41),none⟩,⟨some 43,.bs 1 1 [.i .u8 0] [(0,1,.t 42)],none⟩,⟨some 44,.cbs (.t 43),none⟩,⟨some 45,.bi .add (.t 33) (.t 44),none⟩,⟨some 0,.mv (.t 45),none⟩]])) (.reg [.seq [⟨some 31,.mv (.t 8),none⟩,⟨some 32,.bi .add (.t 31) (.c (.i .i64 1)),none⟩,⟨some 8,.mv (.t 32),none⟩]])))
def law14_TcodeOnce.c : PFun := ⟨(.seq (.reg [.seq [⟨some 6,.mv (.c (.b false)),none⟩]]) (.seq (.reg [.seq [⟨some 14,.ca (.c (.fn (.func law14_awake.n) [] [])) [],none⟩,⟨some 7,.mv (.t 14),none⟩]]) (.seq (.seq (.reg [.seq [⟨some 15,.mv (.t 7),none⟩,⟨some 16,.un .not (.t 15),none⟩]]) (.cond (.t 16) (.seq (.reg [.seq [⟨some 6,.mv (.c (.b false)),none⟩]]) .ret) .skip)) (.seq (.seq (.reg [.seq [⟨some 17,.mv (.t 2),none⟩,⟨some 18,.mv (.t 17),none⟩,⟨some 19,.mv (.t 0),some (18,false)⟩,⟨some 20,.ln .s (.t 19),some (18,false)⟩,⟨some 21,.bi .gtr (.t 20) (.c (.i .i64 300)),some (18,false)⟩,⟨some 22,.pk (.t 18) (.c (.b true)) (.t 21),none⟩]]) (.cond (.t 22) (.seq (.reg [.seq [⟨some 0,.mv (.c (.s (bs []))),none⟩]]) (.seq (.reg [.seq [⟨some 8,.mv (.c (.i .i64 0)),none⟩]]) (.block 0 (.loop law14_TcodeOnce.b1)))) .skip)) (.seq (.reg [.seq [⟨some 47,.mv (.t 0),none⟩,⟨some 48,.ca (.c (.fn (.func tcode_Get.n) [] [])) [.t 47,.c (.i .i64 0)],none⟩,⟨some 46,.mv (.t 48),none⟩,⟨some 49,.ex (.t 46) 0,none⟩,⟨some 50,.ex (.t 46) 1,none⟩,⟨some 51,.ex (.t 46) 2,none⟩,⟨some 9,.al [.i .i64 0,.i .i64 0,.ns,.ns],none⟩,⟨none,.st 4 (.t 9) (.t 49),none⟩,⟨some 10,.mv (.t 50),none⟩,⟨some 11,.mv (.t 51),none⟩]]) (.seq (.seq (.reg [.seq [⟨some 52,.mv (.t 11),none⟩,⟨some 53,.bi .neq (.t 52) (.c (.i .i64 0)),none⟩]]) (.cond (.t 53) (.seq (.reg [.seq [⟨some 54,.mv (.t 7),none⟩,⟨some 55,.mv (.t 54),none⟩,⟨some 56,.mv (.t 10),some (55,true)⟩,⟨some 57,.bi .eql (.t 56) (.c (.i .i64 0)),some (55,true)⟩,⟨some 58,.pk (.t 55) (.t 57) (.c (.b false)),none⟩,⟨some 59,.mv (.t 58),none⟩,⟨some 60,.fa 0 (.t 9),some (59,true)⟩,⟨some 61,.ld false 1 (.t 60),some (59,true)⟩,⟨some 62,.bi .eql (.t 61) (.c (.i .i64 0)),some (59,true)⟩,⟨some 63,.pk (.t 59) (.t 62) (.c (.b false)),none⟩,⟨some 6,.mv (.t 63),none⟩]]) .ret) .skip)) (.seq (.reg [.seq [⟨some 65,.ld true 4 (.t 9),none⟩,⟨some 66,.ca (.c (.fn (.func tcode_Put.n) [] [])) [.t 65],none⟩,⟨some 64,.mv (.t 66),none⟩,⟨some 67,.ex (.t 64) 0,none⟩,⟨some 68,.ex (.t 64) 1,none⟩,⟨some 12,.mv (.t 67),none⟩,⟨some 13,.mv (.t 68),none⟩]]) (.seq (.reg [.seq [⟨some 69,.mv (.t 7),none⟩,⟨some 70,.mv (.t 69),none⟩,⟨some 71,.mv (.t 13),some (70,true)⟩,⟨some 72,.bi .eql (.t 71) (.c (.i .i64 0)),some (70,true)⟩,⟨some 73,.pk (.t 70) (.t 72) (.c (.b false)),none⟩,⟨some 74,.mv (.t 73),none⟩,⟨some 75,.mv (.t 10),some (74,true)⟩,⟨some 76,.bi .geq (.t 75) (.c (.i .i64 1)),some (74,true)⟩,⟨some 77,.pk (.t 74) (.t 76) (.c (.b false)),none⟩,⟨some 78,.mv (.t 77),none⟩,⟨some 79,.mv (.t 10),some (78,true)⟩,⟨some 80,.mv (.t 0),some (78,true)⟩,⟨some 81,.ln .s (.t 80),some (78,true)⟩,⟨some 82,.bi .leq (.t 79) (.t 81),some (78,true)⟩,⟨some 83,.pk (.t 78) (.t 82) (.c (.b false)),none⟩,⟨some 84,.mv (.t 83),none⟩,⟨some 85,.mv (.t 0),some (84,true)⟩,⟨some 86,.mv (.t 10),some (84,true)⟩,⟨some 87,.ss (.t 85) none (some (.t 86)),some (84,true)⟩,⟨some 88,.mv (.t 12),some (84,true)⟩,⟨some 89,.bi .eql (.t 87) (.t 88),some (84,true)⟩,⟨some 90,.pk (.t 84) (.t 89) (.c (.b false)),none⟩,⟨some 6,.mv (.t 90),none⟩]]) .ret)))))))), [.t 6]⟩
def law14_awake.c : PFun := ⟨(.seq (.reg [.seq [⟨some 0,.mv (.c (.b false)),none⟩]]) (.seq (.reg [.seq [⟨some 15,.bd [.i .i64 0,.i .i64 0,.ns] [(0,1,.c (.i .i64 1))],none⟩,⟨some 16,.ca (.c (.fn (.func law13_Sort.n) [] [])) [.t 15],none⟩,⟨some 17,.ca (.c (.fn (.func law13_Var.n) [] [])) [.c (.i .i64 0)],none⟩,⟨some 18,.bs 4 2 [.i .i64 0,.i .i64 0,.ns,.ns] [(0,4,.t 16),(4,4,.t 17)],none⟩,⟨some 19,.ca (.c (.fn (.func law13_Bind.n) [] [])) [.c (.i .i64 5),.t 18],none⟩,⟨some 1,.al [.i .i64 0,.i .i64 0,.ns,.ns],none⟩,⟨none,.st 4 (.t 1) (.t 19),none⟩]]) (.seq (.reg [.seq [⟨some 21,.ld true 4 (.t 1),none⟩,⟨some 22,.ca (.c (.fn (.func tcode_Put.n) [] [])) [.t 21],none⟩,⟨some 20,.mv (.t 22),none⟩,⟨some 23,.ex (.t 20) 0,none⟩,⟨some 24,.ex (.t 20) 1,none⟩,⟨some 2,.mv (.t 23),none⟩,⟨some 3,.mv (.t 24),none⟩]]) (.seq (.reg [.seq [⟨some 26,.mv (.t 2),none⟩,⟨some 27,.bi .add (.c (.s (bs [120]))) (.t 26),none⟩,⟨some 28,.bi .add (.t 27) (.c (.s (bs [121]))),none⟩,⟨some 29,.ca (.c (.fn (.func tcode_Get.n) [] [])) [.t 28,.c (.i .i64 1)],none⟩,⟨some 25,.mv (.t 29),none⟩,⟨some 30,.ex (.t 25) 0,none⟩,⟨some 31,.ex (.t 25) 1,none⟩,⟨some 32,.ex (.t 25) 2,none⟩,⟨some 4,.al [.i .i64 0,.i .i64 0,.ns,.ns],none⟩,⟨none,.st 4 (.t 4) (.t 30),none⟩,⟨some 5,.mv (.t 31),none⟩,⟨some 6,.mv (.t 32),none⟩]]) (.seq (.reg [.seq [⟨some 34,.ca (.c (.fn (.func tcode_Get.n) [] [])) [.c (.s (bs [8])),.c (.i .i64 0)],none⟩,⟨some 33,.mv (.t 34),none⟩,⟨some 35,.ex (.t 33) 0,none⟩,⟨some 36,.ex (.t 33) 1,none⟩,⟨some 37,.ex (.t 33) 2,none⟩,⟨some 7,.al [.i .i64 0,.i .i64 0,.ns,.ns],none⟩,⟨none,.st 4 (.t 7) (.t 35),none⟩,⟨some 8,.mv (.t 36),none⟩,⟨some 9,.mv (.t 37),none⟩]]) (.seq (.reg [.seq [⟨some 39,.ca (.c (.fn (.func tcode_Get.n) [] [])) [.c (.s (bs [4,1])),.c (.i .i64 0)],none⟩,⟨some 38,.mv (.t 39),none⟩,⟨some 40,.ex (.t 38) 0,none⟩,⟨some 41,.ex (.t 38) 1,none⟩,⟨some 42,.ex (.t 38) 2,none⟩,⟨some 10,.al [.i .i64 0,.i .i64 0,.ns,.ns],none⟩,⟨none,.st 4 (.t 10) (.t 40),none⟩,⟨some 11,.mv (.t 41),none⟩,⟨some 12,.mv (.t 42),none⟩]]) (.seq (.reg [.seq [⟨some 44,.bd [.i .i64 0,.i .i64 0,.ns,.ns] [],none⟩,⟨some 45,.ca (.c (.fn (.func tcode_Put.n) [] [])) [.t 44],none⟩,⟨some 43,.mv (.t 45),none⟩,⟨some 46,.ex (.t 43) 0,none⟩,⟨some 47,.ex (.t 43) 1,none⟩,⟨some 13,.mv (.t 46),none⟩,⟨some 14,.mv (.t 47),none⟩]]) (.seq (.reg [.seq [⟨some 48,.mv (.t 3),none⟩,⟨some 49,.bi .eql (.t 48) (.c (.i .i64 0)),none⟩,⟨some 50,.mv (.t 49),none⟩,⟨some 51,.mv (.t 2),some (50,true)⟩,⟨some 52,.bi .eql (.t 51) (.c (.s (bs [5,2,1,1,0]))),some (50,true)⟩,⟨some 53,.pk (.t 50) (.t 52) (.c (.b false)),none⟩,⟨some 54,.mv (.t 53),none⟩,⟨some 55,.mv (.t 6),some (54,true)⟩,⟨some 56,.bi .eql (.t 55) (.c (.i .i64 0)),some (54,true)⟩,⟨some 57,.pk (.t 54) (.t 56) (.c (.b false)),none⟩,⟨some 58,.mv (.t 57),none⟩,⟨some 59,.mv (.t 5),some (58,true)⟩,⟨some 60,.bi .eql (.t 59) (.c (.i .i64 6)),some (58,true)⟩,⟨some 61,.pk (.t 58) (.t 60) (.c (.b false)),none⟩,⟨some 62,.mv (.t 61),none⟩,⟨some 63,.ld true 4 (.t 1),some (62,true)⟩,⟨some 64,.ld true 4 (.t 4),some (62,true)⟩,⟨some 65,.ca (.c (.fn (.func ref13_Same.n) [] [])) [.t 63,.t 64],some (62,true)⟩,⟨some 66,.pk (.t 62) (.t 65) (.c (.b false)),none⟩,⟨some 67,.mv (.t 66),none⟩,⟨some 68,.mv (.t 9),some (67,true)⟩,⟨some 69,.bi .eql (.t 68) (.c (.i .i64 20)),some (67,true)⟩,⟨some 70,.pk (.t 67) (.t 69) (.c (.b false)),none⟩,⟨some 71,.mv (.t 70),none⟩,⟨some 72,.mv (.t 12),some (71,true)⟩,⟨some 73,.bi .eql (.t 72) (.c (.i .i64 21)),some (71,true)⟩,⟨some 74,.pk (.t 71) (.t 73) (.c (.b false)),none⟩,⟨some 75,.mv (.t 74),none⟩,⟨some 76,.mv (.t 14),some (75,true)⟩,⟨some 77,.bi .eql (.t 76) (.c (.i .i64 1)),some (75,true)⟩,⟨some 78,.pk (.t 75) (.t 77) (.c (.b false)),none⟩,⟨some 0,.mv (.t 78),none⟩]]) .ret)))))))), [.t 0]⟩
def law14_get.c : PFun := ⟨(.seq (.reg [.seq [⟨some 4,.mv (.c (.b false)),none⟩]]) (.seq (.reg [.seq [⟨some 12,.mv (.t 0),none⟩,⟨some 13,.mv (.t 1),none⟩,⟨some 14,.ca (.c (.fn (.func tcode_Get.n) [] [])) [.t 12,.t 13],none⟩,⟨some 11,.mv (.t 14),none⟩,⟨some 15,.ex (.t 11) 0,none⟩,⟨some 16,.ex (.t 11) 1,none⟩,⟨some 17,.ex (.t 11) 2,none⟩,⟨some 5,.al [.i .i64 0,.i .i64 0,.ns,.ns],none⟩,⟨none,.st 4 (.t 5) (.t 15),none⟩,⟨some 6,.mv (.t 16),none⟩,⟨some 7,.mv (.t 17),none⟩]]) (.seq (.reg [.seq [⟨some 19,.mv (.t 0),none⟩,⟨some 20,.mv (.t 1),none⟩,⟨some 21,.ca (.c (.fn (.func ref14_Get.n) [] [])) [.t 19,.t 20],none⟩,⟨some 18,.mv (.t 21),none⟩,⟨some 22,.ex (.t 18) 0,none⟩,⟨some 23,.ex (.t 18) 1,none⟩,⟨some 24,.ex (.t 18) 2,none⟩,⟨some 8,.al [.i .i64 0,.i .i64 0,.ns,.ns],none⟩,⟨none,.st 4 (.t 8) (.t 22),none⟩,⟨some 9,.mv (.t 23),none⟩,⟨some 10,.mv (.t 24),none⟩]]) (.seq (.reg [.seq [⟨some 25,.ld true 4 (.t 5),none⟩,⟨some 26,.ld true 4 (.t 8),none⟩,⟨some 27,.ca (.c (.fn (.func ref13_Same.n) [] [])) [.t 25,.t 26],none⟩,⟨some 28,.mv (.t 27),none⟩,⟨some 29,.mv (.t 6),some (28,true)⟩,⟨some 30,.mv (.t 9),some (28,true)⟩,⟨some 31,.bi .eql (.t 29) (.t 30),some (28,true)⟩,⟨some 32,.pk (.t 28) (.t 31) (.c (.b false)),none⟩,⟨some 33,.mv (.t 32),none⟩,⟨some 34,.mv (.t 7),some (33,true)⟩,⟨some 35,.mv (.t 10),some (33,true)⟩,⟨some 36,.bi .eql (.t 34) (.t 35),some (33,true)⟩,⟨some 37,.pk (.t 33) (.t 36) (.c (.b false)),none⟩,⟨some 4,.mv (.t 37),none⟩]]) .ret)))), [.t 4]⟩
def ref13_Parts.b1 : PCode := (.seq (.seq (.reg [.seq [⟨some 7,.mv (.t 6),none⟩,⟨some 8,.fa 3 (.t 2),none⟩,⟨some 9,.ld false 1 (.t 8),none⟩,⟨some 10,.ln .l (.t 9),none⟩,⟨some 11,.bi .lss (.t 7) (.t 10),none⟩,⟨some 12,.mv (.t 11),none⟩,⟨some 13,.mv (.t 5),some (12,true)⟩,⟨some 14,.mv (.t 1),some (12,true)⟩,⟨some 15,.bi .lss (.t 13) (.t 14),some (12,true)⟩,⟨some 16,.pk (.t 12) (.t 15) (.c (.b false)),none⟩]]) (.cond (.t 16) .skip (.exit 0))) (.seq (.block 1 (.reg [.seq [⟨some 19,.mv (.t 5),none⟩,⟨some 20,.fa 3 (.t 2),none⟩,⟨some 21,.ld false 1 (.t 20),none⟩,⟨some 22,.mv (.t 6),none⟩,⟨some 23,.ia 4 (.t 21) (.t 22),none⟩,⟨some 24,.ld true 4 (.t 23),none⟩,⟨some 25,.mv (.t 1),none⟩,⟨some 26,.mv (.t 5),none⟩,⟨some 27,.bi .sub (.t 25) (.t 26),none⟩,⟨some 28,.ca (.c (.fn (.func ref13_Parts.n) [] [])) [.t 24,.t 27],none⟩,⟨some 29,.bi .add (.t 19) (.t 28),none⟩,⟨some 5,.mv (.t 29),none⟩]])) (.reg [.seq [⟨some 17,.mv (.t 6),none⟩,⟨some 18,.bi .add (.t 17) (.c (.i .i64 1)),none⟩,⟨some 6,.mv (.t 18),none⟩]])))
def ref13_Parts.c : PFun := ⟨(.seq (.reg [.seq [⟨some 2,.bx (.t 0),none⟩,⟨some 4,.mv (.c (.i .i64 0)),none⟩]]) (.seq (.reg [.seq [⟨some 5,.mv (.c (.i .i64 1)),none⟩]]) (.seq (.seq (.reg [.seq [⟨some 6,.mv (.c (.i .i64 0)),none⟩]]) (.block 0 (.loop ref13_Parts.b1))) (.seq (.reg [.seq [⟨some 30,.mv (.t 5),none⟩,⟨some 4,.mv (.t 30),none⟩]]) .ret)))), [.t 4]⟩
def ref02_Nodes.b1 : PCode := (.seq (.seq (.reg [.seq [⟨some 7,.mv (.t 6),none⟩,⟨some 8,.fa 2 (.t 2),none⟩,⟨some 9,.ld false 1 (.t 8),none⟩,⟨some 10,.ln .l (.t 9),none⟩,⟨some 11,.bi .lss (.t 7) (.t 10),none⟩,⟨some 12,.mv (.t 11),none⟩,⟨some 13,.mv (.t 5),some (12,true)⟩,⟨some 14,.mv (.t 1),some (12,true)⟩,⟨some 15,.bi .lss (.t 13) (.t 14),some (12,true)⟩,⟨some 16,.pk (.t 12) (.t 15) (.c (.b false)),none⟩]]) (.cond (.t 16) .skip (.exit 0))) (.seq (.block 1 (.reg [.seq [⟨some 19,.mv (.t 5),none⟩,⟨some 20,.fa 2 (.t 2),none⟩,⟨some 21,.ld false 1 (.t 20),none⟩,⟨some 22,.mv (.t 6),none⟩,⟨some 23,.ia 3 (.t 21) (.t 22),none⟩,⟨some 24,.ld true 3 (.t 23),none⟩,⟨some 25,.mv (.t 1),none⟩,⟨some 26,.mv (.t 5),none⟩,⟨some 27,.bi .sub (.t 25) (.t 26),none⟩,⟨some 28,.ca (.c (.fn (.func ref02_Nodes.n) [] [])) [.t 24,.t 27],none⟩,⟨some 29,.bi .add (.t 19) (.t 28),none⟩,⟨some 5,.mv (.t 29),none⟩]])) (.reg [.seq [⟨some 17,.mv (.t 6),none⟩,⟨some 18,.bi .add (.t 17) (.c (.i .i64 1)),none⟩,⟨some 6,.mv (.t 18),none⟩]])))
def ref02_Nodes.c : PFun := ⟨(.seq (.reg [.seq [⟨some 2,.bx (.t 0),none⟩,⟨some 4,.mv (.c (.i .i64 0)),none⟩]]) (.seq (.reg [.seq [⟨some 5,.mv (.c (.i .i64 1)),none⟩]]) (.seq (.seq (.reg [.seq [⟨some 6,.mv (.c (.i .i64 0)),none⟩]]) (.block 0 (.loop ref02_Nodes.b1))) (.seq (.reg [.seq [⟨some 30,.mv (.t 5),none⟩,⟨some 4,.mv (.t 30),none⟩]]) .ret)))), [.t 4]⟩
def law13_Made.c : PFun := ⟨(.seq (.reg [.seq [⟨some 2,.al [.i .i64 0,.i .i64 0,.ns,.ns],none⟩]]) (.seq (.reg [.seq [⟨some 3,.mv (.t 0),none⟩,⟨some 4,.bd [.ns,.i .i64 0] [(0,1,.t 3)],none⟩,⟨some 5,.bx (.t 4),none⟩,⟨some 6,.ca (.c (.fn (.func law13_Term.n) [] [])) [.t 5,.c (.i .i64 3),.c (.i .i64 4)],none⟩,⟨none,.st 4 (.t 2) (.t 6),none⟩]]) .ret)), [.c 2 true 4]⟩
def tcode_Put.c : PFun := ⟨(.seq (.reg [.seq [⟨some 1,.bx (.t 0),none⟩,⟨some 2,.mv (.c (.s (bs []))),none⟩,⟨some 3,.mv (.c (.i .i64 0)),none⟩]]) (.seq (.seq (.reg [.seq [⟨some 5,.ld true 4 (.t 1),none⟩,⟨some 6,.ca (.c (.fn (.func term_Right.n) [] [])) [.t 5,.c (.i .i64 1000),.c (.i .i64 5),.c (.i .i64 10)],none⟩,⟨some 7,.un .not (.t 6),none⟩]]) (.cond (.t 7) (.seq (.reg [.seq [⟨some 2,.mv (.c (.s (bs []))),none⟩,⟨some 3,.mv (.c (.i .i64 1)),none⟩]]) .ret) .skip)) (.seq (.reg [.seq [⟨some 4,.ub (.alt 74 [.np,.ns]) (.c .un) (.c .un),none⟩]]) (.seq (.reg [.seq [⟨some 8,.ld true 4 (.t 1),none⟩,⟨some 9,.ca (.c (.fn (.func tcode_writer_term.n) [] [])) [.t 4,.t 8],none⟩]]) (.seq (.reg [.seq [⟨some 10,.fa 0 (.t 4),none⟩,⟨some 11,.ca (.c (.fn (.func strings_Builder_String.n) [] [])) [.t 10],none⟩,⟨some 2,.mv (.t 11),none⟩,⟨some 3,.mv (.c (.i .i64 0)),none⟩]]) .ret))))), [.t 2,.t 3]⟩
def ref14_Put.c : PFun := ⟨(.seq (.reg [.seq [⟨some 1,.bx (.t 0),none⟩,⟨some 2,.mv (.c (.s (bs []))),none⟩,⟨some 3,.mv (.c (.i .i64 0)),none⟩]]) (.seq (.seq (.reg [.seq [⟨some 4,.ld true 4 (.t 1),none⟩,⟨some 5,.ca (.c (.fn (.func ref13_Shape.n) [] [])) [.t 4],none⟩,⟨some 6,.un .not (.t 5),none⟩]]) (.cond (.t 6) (.seq (.reg [.seq [⟨some 2,.mv (.c (.s (bs []))),none⟩,⟨some 3,.mv (.c (.i .i64 1)),none⟩]]) .ret) .skip)) (.seq (.reg [.seq [⟨some 7,.ld true 4 (.t 1),none⟩,⟨some 8,.ca (.c (.fn (.func ref14_text.n) [] [])) [.t 7],none⟩,⟨some 2,.mv (.t 8),none⟩,⟨some 3,.mv (.c (.i .i64 0)),none⟩]]) .ret))), [.t 2,.t 3]⟩
def law14_full.c : PFun := ⟨(.seq (.reg [.seq [⟨some 2,.mv (.c (.s (bs []))),none⟩]]) (.seq (.seq (.reg [.seq [⟨some 3,.mv (.t 0),none⟩,⟨some 4,.bi .lss (.t 3) (.c (.i .i64 1)),none⟩]]) (.cond (.t 4) (.seq (.reg [.seq [⟨some 2,.mv (.c (.s (bs [1,0]))),none⟩]]) .ret) .skip)) (.seq (.reg [.seq [⟨some 5,.mv (.t 0),none⟩,⟨some 6,.bi .sub (.t 5) (.c (.i .i64 1)),none⟩,⟨some 7,.ca (.c (.fn (.func law14_full.n) [] [])) [.t 6],none⟩,⟨some 8,.bi .add (.c (.s (bs [4]))) (.t 7),none⟩,⟨some 9,.mv (.t 0),none⟩,⟨some 10,.bi .sub (.t 9) (.c (.i .i64 1)),none⟩,⟨some 11,.ca (.c (.fn (.func law14_full.n) [] [])) [.t 10],none⟩,⟨some 12,.bi .add (.t 8) (.t 11),none⟩,⟨some 2,.mv (.t 12),none⟩]]) .ret))), [.t 2]⟩
def tcode_Get.c : PFun := ⟨(.seq (.reg [.seq [⟨some 4,.al [.i .i64 0,.i .i64 0,.ns,.ns],none⟩,⟨some 5,.al [.i .i64 0],none⟩,⟨some 6,.al [.i .i64 0],none⟩]]) (.seq (.seq (.reg [.seq [⟨some 8,.mv (.t 1),none⟩,⟨some 9,.bi .lss (.t 8) (.c (.i .i64 0)),none⟩,⟨some 10,.mv (.t 9),none⟩,⟨some 11,.mv (.t 1),some (10,false)⟩,⟨some 12,.mv (.t 0),some (10,false)⟩,⟨some 13,.ln .s (.t 12),some (10,false)⟩,⟨some 14,.bi .gtr (.t 11) (.t 13),some (10,false)⟩,⟨some 15,.pk (.t 10) (.c (.b true)) (.t 14),none⟩]]) (.cond (.t 15) (.seq (.reg [.seq [⟨some 16,.ld true 4 (.t 4),none⟩,⟨none,.st 4 (.t 4) (.t 16),none⟩,⟨none,.st 1 (.t 5) (.c (.i .i64 0)),none⟩,⟨none,.st 1 (.t 6) (.c (.i .i64 1)),none⟩]]) .ret) .skip)) (.seq (.reg [.seq [⟨some 17,.mv (.t 0),none⟩,⟨some 18,.mv (.t 1),none⟩,⟨some 19,.bd [.s (bs []),.i .i64 0,.i .i64 0,.i .i64 0] [(0,1,.t 17),(1,1,.t 18)],none⟩,⟨some 20,.bx (.t 19),none⟩,⟨some 7,.al [.np],none⟩,⟨none,.st 1 (.t 7) (.t 20),none⟩]]) (.seq (.reg [.seq [⟨some 21,.mf (.func tcode_Get_1.n) [] [.t 7,.t 6,.t 4,.t 5],none⟩,⟨none,.df (.t 21) [],none⟩]]) (.seq (.reg [.seq [⟨some 22,.ld false 1 (.t 7),none⟩,⟨some 23,.bd [.i .i64 0,.i .i64 0] [],none⟩,⟨some 24,.ca (.c (.fn (.func tcode_reader_term.n) [] [])) [.t 22,.t 23],none⟩,⟨none,.st 4 (.t 4) (.t 24),none⟩]]) (.seq (.reg [.any [⟨some 25,.ld true 4 (.t 4),none⟩,⟨some 26,.ld false 1 (.t 7),none⟩,⟨some 27,.nc (.t 26),none⟩,⟨some 28,.fa 1 (.t 27),none⟩,⟨some 29,.ld false 1 (.t 28),none⟩,⟨none,.st 4 (.t 4) (.t 25),none⟩] [(1,5),(4,5)],.seq [⟨none,.st 1 (.t 5) (.t 29),none⟩],.seq [⟨none,.st 1 (.t 6) (.c (.i .i64 0)),none⟩]]) .ret)))))), [.c 4 true 4,.c 5 false 1,.c 6 false 1]⟩
def ref13_Same.b1 : PCode := (.seq (.seq (.reg [.seq [⟨some 37,.mv (.t 5),none⟩,⟨some 38,.fa 2 (.t 2),none⟩,⟨some 39,.ld false 1 (.t 38),none⟩,⟨some 40,.ln .l (.t 39),none⟩,⟨some 41,.bi .lss (.t 37) (.t 40),none⟩]]) (.cond (.t 41) .skip (.exit 0))) (.seq (.block 1 (.seq (.reg [.any [⟨some 44,.fa 2 (.t 2),none⟩,⟨some 45,.ld false 1 (.t 44),none⟩,⟨some 46,.mv (.t 5),none⟩,⟨some 47,.ia 3 (.t 45) (.t 46),none⟩,⟨some 48,.ld true 3 (.t 47),none⟩,⟨some 49,.fa 2 (.t 3),none⟩,⟨some 50,.ld false 1 (.t 49),none⟩,⟨some 51,.mv (.t 5),none⟩,⟨some 52,.ia 3 (.t 50) (.t 51),none⟩,⟨some 53,.ld true 3 (.t 52),none⟩] [],.seq [⟨some 54,.ca (.c (.fn (.func ref02_Same.n) [] [])) [.t 48,.t 53],none⟩],.seq [⟨some 55,.un .not (.t 54),none⟩]]) (.cond (.t 55) (.seq (.reg [.seq [⟨some 4,.mv (.c (.b false)),none⟩]]) .ret) .skip))) (.reg [.seq [⟨some 42,.mv (.t 5),none⟩,⟨some 43,.bi .add (.t 42) (.c (.i .i64 1)),none⟩,⟨some 5,.mv (.t 43),none⟩]])))
def ref13_Same.b2 : PCode := (.seq (.seq (.reg [.seq [⟨some 56,.mv (.t 6),none⟩,⟨some 57,.fa 3 (.t 2),none⟩,⟨some 58,.ld false 1 (.t 57),none⟩,⟨some 59,.ln .l (.t 58),none⟩,⟨some 60,.bi .lss (.t 56) (.t 59),none⟩]]) (.cond (.t 60) .skip (.exit 2))) (.seq (.block 3 (.seq (.reg [.any [⟨some 63,.fa 3 (.t 2),none⟩,⟨some 64,.ld false 1 (.t 63),none⟩,⟨some 65,.mv (.t 6),none⟩,⟨some 66,.ia 4 (.t 64) (.t 65),none⟩,⟨some 67,.ld true 4 (.t 66),none⟩,⟨some 68,.fa 3 (.t 3),none⟩,⟨some 69,.ld false 1 (.t 68),none⟩,⟨some 70,.mv (.t 6),none⟩,⟨some 71,.ia 4 (.t 69) (.t 70),none⟩,⟨some 72,.ld true 4 (.t 71),none⟩] [],.seq [⟨some 73,.ca (.c (.fn (.func ref13_Same.n) [] [])) [.t 67,.t 72],none⟩],.seq [⟨some 74,.un .not (.t 73),none⟩]]) (.cond (.t 74) (.seq (.reg [.seq [⟨some 4,.mv (.c (.b false)),none⟩]]) .ret) .skip))) (.reg [.seq [⟨some 61,.mv (.t 6),none⟩,⟨some 62,.bi .add (.t 61) (.c (.i .i64 1)),none⟩,⟨some 6,.mv (.t 62),none⟩]])))
def ref13_Same.c : PFun := ⟨(.seq (.reg [.seq [⟨some 2,.bx (.t 0),none⟩,⟨some 3,.bx (.t 1),none⟩,⟨some 4,.mv (.c (.b false)),none⟩]]) (.seq (.seq (.reg [.seq [⟨some 7,.fa 0 (.t 2),none⟩,⟨some 8,.ld false 1 (.t 7),none⟩,⟨some 9,.fa 0 (.t 3),none⟩,⟨some 10,.ld false 1 (.t 9),none⟩,⟨some 11,.bi .neq (.t 8) (.t 10),none⟩,⟨some 12,.mv (.t 11),none⟩,⟨some 13,.fa 1 (.t 2),some (12,false)⟩,⟨some 14,.ld false 1 (.t 13),some (12,false)⟩,⟨some 15,.fa 1 (.t 3),some (12,false)⟩,⟨some 16,.ld false 1 (.t 15),some (12,false)⟩,⟨some 17,.bi .neq (.t 14) (.t 16),some (12,false)⟩,⟨some 18,.pk (.t 12) (.c (.b true)) (.t 17),none⟩,⟨some 19,.mv (.t 18),none⟩,⟨some 20,.fa 2 (.t 2),some (19,false)⟩,⟨some 21,.ld false 1 (.t 20),some (19,false)⟩,⟨some 22,.ln .l (.t 21),some (19,false)⟩,⟨some 23,.fa 2 (.t 3),some (19,false)⟩,⟨some 24,.ld false 1 (.t 23),some (19,false)⟩,⟨some 25,.ln .l (.t 24),some (19,false)⟩,⟨some 26,.bi .neq (.t 22) (.t 25),some (19,false)⟩,⟨some 27,.pk (.t 19) (.c (.b true)) (.t 26),none⟩,⟨some 28,.mv (.t 27),none⟩,⟨some 29,.fa 3 (.t 2),some (28,false)⟩,⟨some 30,.ld false 1 (.t 29),some (28,false)⟩,⟨some 31,.ln .l (.t 30),some (28,false)⟩,⟨some 32,.fa 3 (.t 3),some (28,false)⟩,⟨some 33,.ld false 1 (.t 32),some (28,false)⟩,⟨some 34,.ln .l (.t 33),some (28,false)⟩,⟨some 35,.bi .neq (.t 31) (.t 34),some (28,false)⟩,⟨some 36,.pk (.t 28) (.c (.b true)) (.t 35),none⟩]]) (.cond (.t 36) (.seq (.reg [.seq [⟨some 4,.mv (.c (.b false)),none⟩]]) .ret) .skip)) (.seq (.seq (.reg [.seq [⟨some 5,.mv (.c (.i .i64 0)),none⟩]]) (.block 0 (.loop ref13_Same.b1))) (.seq (.seq (.reg [.seq [⟨some 6,.mv (.c (.i .i64 0)),none⟩]]) (.block 2 (.loop ref13_Same.b2))) (.seq (.reg [.seq [⟨some 4,.mv (.c (.b true)),none⟩]]) .ret))))), [.t 4]⟩
def law02_Maker_Level.c : PFun := ⟨(.seq (.reg [.seq [⟨some 8,.al [.i .i64 0,.i .i64 0,.ns],none⟩]]) (.seq (.reg [.seq [⟨some 10,.mv (.t 0),none⟩,⟨some 11,.ca (.c (.fn (.func law02_Maker_Pick.n) [] [])) [.t 10,.c (.i .i64 10)],none⟩,⟨some 9,.mv (.t 11),none⟩]]) (.seq (.seq (.reg [.seq [⟨some 12,.mv (.t 3),none⟩,⟨some 13,.bi .lss (.t 12) (.c (.i .i64 2)),none⟩]]) (.cond (.t 13) (.reg [.seq [⟨some 14,.mv (.t 9),none⟩,⟨some 15,.bi .rem (.t 14) (.c (.i .i64 4)),none⟩,⟨some 9,.mv (.t 15),none⟩]]) .skip)) (.seq (.block 0 (.seq (.reg [.seq [⟨some 17,.mv (.t 9),none⟩,⟨some 18,.bi .eql (.t 17) (.c (.i .i64 1)),none⟩,⟨some 19,.mv (.t 18),none⟩,⟨some 20,.mv (.t 1),some (19,true)⟩,⟨some 21,.bi .gtr (.t 20) (.c (.i .i64 0)),some (19,true)⟩,⟨some 22,.pk (.t 19) (.t 21) (.c (.b false)),none⟩,⟨some 23,.mv (.t 22),none⟩,⟨some 24,.mv (.t 9),some (23,false)⟩,⟨some 25,.bi .eql (.t 24) (.c (.i .i64 2)),some (23,false)⟩,⟨some 26,.mv (.t 25),some (23,false)⟩,⟨some 27,.mv (.t 1),some (26,true)⟩,⟨some 28,.bi .gtr (.t 27) (.c (.i .i64 0)),some (26,true)⟩,⟨some 29,.pk (.t 26) (.t 28) (.c (.b false)),some (23,false)⟩,⟨some 30,.mv (.t 29),some (23,false)⟩,⟨some 31,.mv (.t 2),some (30,true)⟩,⟨some 32,.bi .eql (.t 31) (.c (.i .i64 0)),some (30,true)⟩,⟨some 33,.pk (.t 30) (.t 32) (.c (.b false)),some (23,false)⟩,⟨some 34,.pk (.t 23) (.c (.b true)) (.t 33),none⟩,⟨some 16,.mv (.t 34),none⟩]]) (.cond (.t 16) (.seq (.reg [.seq [⟨some 35,.mv (.t 0),none⟩,⟨some 36,.mv (.t 1),none⟩,⟨some 37,.ca (.c (.fn (.func law02_Maker_Pick.n) [] [])) [.t 35,.t 36],none⟩,⟨some 38,.bd [.i .i64 0,.i .i64 0,.ns] [(0,1,.c (.i .i64 5)),(1,1,.t 37)],none⟩,⟨none,.st 3 (.t 8) (.t 38),none⟩]]) .ret) (.seq (.reg [.seq [⟨some 40,.mv (.t 9),none⟩,⟨some 41,.bi .eql (.t 40) (.c (.i .i64 2)),none⟩,⟨some 42,.mv (.t 41),none⟩,⟨some 43,.mv (.t 9),some (42,false)⟩,⟨some 44,.bi .eql (.t 43) (.c (.i .i64 3)),some (42,false)⟩,⟨some 45,.pk (.t 42) (.c (.b true)) (.t 44),none⟩,⟨some 46,.mv (.t 45),none⟩,⟨some 47,.mv (.t 2),some (46,true)⟩,⟨some 48,.bi .gtr (.t 47) (.c (.i .i64 0)),some (46,true)⟩,⟨some 49,.pk (.t 46) (.t 48) (.c (.b false)),none⟩,⟨some 39,.mv (.t 49),none⟩]]) (.cond (.t 39) (.seq (.reg [.seq [⟨some 50,.mv (.t 0),none⟩,⟨some 51,.mv (.t 2),none⟩,⟨some 52,.ca (.c (.fn (.func law02_Maker_Pick.n) [] [])) [.t 50,.t 51],none⟩,⟨some 53,.bd [.i .i64 0,.i .i64 0,.ns] [(0,1,.c (.i .i64 6)),(1,1,.t 52)],none⟩,⟨none,.st 3 (.t 8) (.t 53),none⟩]]) .ret) (.seq (.reg [.seq [⟨some 55,.mv (.t 9),none⟩,⟨some 56,.bi .lss (.t 55) (.c (.i .i64 4)),none⟩,⟨some 54,.mv (.t 56),none⟩]]) (.cond (.t 54) (.seq (.reg [.seq [⟨some 57,.bd [.i .i64 0,.i .i64 0,.ns] [(0,1,.c (.i .i64 1))],none⟩,⟨none,.st 3 (.t 8) (.t 57),none⟩]]) .ret) (.seq (.reg [.seq [⟨some 59,.mv (.t 9),none⟩,⟨some 60,.bi .lss (.t 59) (.c (.i .i64 6)),none⟩,⟨some 58,.mv (.t 60),none⟩]]) (.cond (.t 58) (.seq (.reg [.seq [⟨some 61,.mv (.t 0),none⟩,⟨some 62,.mv (.t 1),none⟩,⟨some 63,.mv (.t 2),none⟩,⟨some 64,.mv (.t 3),none⟩,⟨some 65,.bi .sub (.t 64) (.c (.i .i64 1)),none⟩,⟨some 66,.ca (.c (.fn (.func law02_Maker_Level.n) [] [])) [.t 61,.t 62,.t 63,.t 65],none⟩,⟨some 67,.bs 3 1 [.i .i64 0,.i .i64 0,.ns] [(0,3,.t 66)],none⟩,⟨some 68,.bd [.i .i64 0,.i .i64 0,.ns] [(0,1,.c (.i .i64 2)),(2,1,.t 67)],none⟩,⟨none,.st 3 (.t 8) (.t 68),none⟩]]) .ret) (.seq (.reg [.seq [⟨some 70,.mv (.t 9),none⟩,⟨some 71,.bi .lss (.t 70) (.c (.i .i64 8)),none⟩,⟨some 69,.mv (.t 71),none⟩]]) (.cond (.t 69) (.seq (.reg [.seq [⟨some 72,.mv (.t 0),none⟩,⟨some 73,.mv (.t 1),none⟩,⟨some 74,.mv (.t 2),none⟩,⟨some 75,.mv (.t 3),none⟩,⟨some 76,.bi .sub (.t 75) (.c (.i .i64 1)),none⟩,⟨some 77,.ca (.c (.fn (.func law02_Maker_Level.n) [] [])) [.t 72,.t 73,.t 74,.t 76],none⟩,⟨some 78,.mv (.t 0),none⟩,⟨some 79,.mv (.t 1),none⟩,⟨some 80,.mv (.t 2),none⟩,⟨some 81,.mv (.t 3),none⟩,⟨some 82,.bi .sub (.t 81) (.c (.i .i64 1)),none⟩,⟨some 83,.ca (.c (.fn (.func law02_Maker_Level.n) [] [])) [.t 78,.t 79,.t 80,.t 82],none⟩,⟨some 84,.bs 3 2 [.i .i64 0,.i .i64 0,.ns] [(0,3,.t 77),(3,3,.t 83)],none⟩,⟨some 85,.bd [.i .i64 0,.i .i64 0,.ns] [(0,1,.c (.i .i64 3)),(2,1,.t 84)],none⟩,⟨none,.st 3 (.t 8) (.t 85),none⟩]]) .ret) .skip))))))))))) (.seq (.reg [.seq [⟨some 86,.mv (.t 0),none⟩,⟨some 87,.mv (.t 1),none⟩,⟨some 88,.mv (.t 2),none⟩,⟨some 89,.mv (.t 3),none⟩,⟨some 90,.bi .sub (.t 89) (.c (.i .i64 1)),none⟩,⟨some 91,.ca (.c (.fn (.func law02_Maker_Level.n) [] [])) [.t 86,.t 87,.t 88,.t 90],none⟩,⟨some 92,.mv (.t 0),none⟩,⟨some 93,.mv (.t 1),none⟩,⟨some 94,.mv (.t 2),none⟩,⟨some 95,.mv (.t 3),none⟩,⟨some 96,.bi .sub (.t 95) (.c (.i .i64 1)),none⟩,⟨some 97,.ca (.c (.fn (.func law02_Maker_Level.n) [] [])) [.t 92,.t 93,.t 94,.t 96],none⟩,⟨some 98,.bs 3 2 [.i .i64 0,.i .i64 0,.ns] [(0,3,.t 91),(3,3,.t 97)],none⟩,⟨some 99,.bd [.i .i64 0,.i .i64 0,.ns] [(0,1,.c (.i .i64 4)),(2,1,.t 98)],none⟩,⟨none,.st 3 (.t 8) (.t 99),none⟩]]) .ret))))), [.c 8 true 3]⟩
def ref02_Eval.c : PFun := ⟨(.seq (.reg [.seq [⟨some 3,.bx (.t 0),none⟩,⟨some 6,.mv (.c (.i .i64 0)),none⟩,⟨some 7,.mv (.c (.i .i64 0)),none⟩]]) (.seq (.seq (.reg [.seq [⟨some 8,.ld true 3 (.t 3),none⟩,⟨some 9,.mv (.t 1),none⟩,⟨some 10,.ln .l (.t 9),none⟩,⟨some 11,.mv (.t 2),none⟩,⟨some 12,.ln .l (.t 11),none⟩,⟨some 13,.ca (.c (.fn (.func ref02_Right.n) [] [])) [.t 8,.t 10,.t 12],none⟩,⟨some 14,.un .not (.t 13),none⟩,⟨some 15,.mv (.t 14),none⟩,⟨some 16,.mv (.t 1),some (15,false)⟩,⟨some 17,.ca (.c (.fn (.func ref02_naturals.n) [] [])) [.t 16],some (15,false)⟩,⟨some 18,.un .not (.t 17),some (15,false)⟩,⟨some 19,.pk (.t 15) (.c (.b true)) (.t 18),none⟩,⟨some 20,.mv (.t 19),none⟩,⟨some 21,.mv (.t 2),some (20,false)⟩,⟨some 22,.ca (.c (.fn (.func ref02_naturals.n) [] [])) [.t 21],some (20,false)⟩,⟨some 23,.un .not (.t 22),some (20,false)⟩,⟨some 24,.pk (.t 20) (.c (.b true)) (.t 23),none⟩]]) (.cond (.t 24) (.seq (.reg [.seq [⟨some 6,.mv (.c (.i .i64 0)),none⟩,⟨some 7,.mv (.c (.i .i64 1)),none⟩]]) .ret) .skip)) (.seq (.reg [.seq [⟨some 25,.ld true 3 (.t 3),none⟩,⟨some 26,.mv (.t 1),none⟩,⟨some 27,.mv (.t 2),none⟩,⟨some 28,.ca (.c (.fn (.func ref02_Value.n) [] [])) [.t 25,.t 26,.t 27],none⟩,⟨some 6,.mv (.t 28),none⟩,⟨some 7,.mv (.c (.i .i64 0)),none⟩]]) .ret))), [.t 6,.t 7]⟩
def law13_Bind.c : PFun := ⟨(.seq (.reg [.seq [⟨some 4,.al [.i .i64 0,.i .i64 0,.ns,.ns],none⟩]]) (.seq (.reg [.seq [⟨some 5,.mv (.t 0),none⟩,⟨some 6,.mv (.t 1),none⟩,⟨some 7,.bd [.i .i64 0,.i .i64 0,.ns,.ns] [(0,1,.t 5),(3,1,.t 6)],none⟩,⟨none,.st 4 (.t 4) (.t 7),none⟩]]) .ret)), [.c 4 true 4]⟩
def law13_Sort.c : PFun := ⟨(.seq (.reg [.seq [⟨some 1,.bx (.t 0),none⟩,⟨some 2,.al [.i .i64 0,.i .i64 0,.ns,.ns],none⟩]]) (.seq (.reg [.seq [⟨some 3,.ld true 3 (.t 1),none⟩,⟨some 4,.bs 3 1 [.i .i64 0,.i .i64 0,.ns] [(0,3,.t 3)],none⟩,⟨some 5,.bd [.i .i64 0,.i .i64 0,.ns,.ns] [(0,1,.c (.i .i64 2)),(2,1,.t 4)],none⟩,⟨none,.st 4 (.t 2) (.t 5),none⟩]]) .ret)), [.c 2 true 4]⟩
def law13_Var.c : PFun := ⟨(.seq (.reg [.seq [⟨some 2,.al [.i .i64 0,.i .i64 0,.ns,.ns],none⟩]]) (.seq (.reg [.seq [⟨some 3,.mv (.t 0),none⟩,⟨some 4,.bd [.i .i64 0,.i .i64 0,.ns,.ns] [(0,1,.c (.i .i64 1)),(1,1,.t 3)],none⟩,⟨none,.st 4 (.t 2) (.t 4),none⟩]]) .ret)), [.c 2 true 4]⟩
def ref14_Get.c : PFun := ⟨(.seq (.reg [.seq [⟨some 4,.al [.i .i64 0,.i .i64 0,.ns,.ns],none⟩,⟨some 5,.mv (.c (.i .i64 0)),none⟩,⟨some 6,.mv (.c (.i .i64 0)),none⟩]]) (.seq (.seq (.reg [.seq [⟨some 9,.mv (.t 1),none⟩,⟨some 10,.bi .lss (.t 9) (.c (.i .i64 0)),none⟩,⟨some 11,.mv (.t 10),none⟩,⟨some 12,.mv (.t 1),some (11,false)⟩,⟨some 13,.mv (.t 0),some (11,false)⟩,⟨some 14,.ln .s (.t 13),some (11,false)⟩,⟨some 15,.bi .gtr (.t 12) (.t 14),some (11,false)⟩,⟨some 16,.pk (.t 11) (.c (.b true)) (.t 15),none⟩]]) (.cond (.t 16) (.seq (.reg [.seq [⟨some 17,.bd [.i .i64 0,.i .i64 0,.ns,.ns] [],none⟩,⟨none,.st 4 (.t 4) (.t 17),none⟩,⟨some 5,.mv (.c (.i .i64 0)),none⟩,⟨some 6,.mv (.c (.i .i64 1)),none⟩]]) .ret) .skip)) (.seq (.reg [.seq [⟨some 18,.mv (.t 0),none⟩,⟨some 19,.mv (.t 1),none⟩,⟨some 20,.bd [.s (bs []),.i .i64 0,.i .i64 0,.i .i64 0] [(0,1,.t 18),(1,1,.t 19)],none⟩,⟨some 21,.bx (.t 20),none⟩,⟨some 7,.mv (.t 21),none⟩]]) (.seq (.reg [.seq [⟨some 22,.mv (.t 7),none⟩,⟨some 23,.ca (.c (.fn (.func ref14_reader_term.n) [] [])) [.t 22,.c (.i .i64 0),.c (.i .i64 0)],none⟩,⟨some 8,.al [.i .i64 0,.i .i64 0,.ns,.ns],none⟩,⟨none,.st 4 (.t 8) (.t 23),none⟩]]) (.seq (.seq (.reg [.seq [⟨some 24,.mv (.t 7),none⟩,⟨some 25,.nc (.t 24),none⟩,⟨some 26,.fa 3 (.t 25),none⟩,⟨some 27,.ld false 1 (.t 26),none⟩,⟨some 28,.bi .neq (.t 27) (.c (.i .i64 0)),none⟩]]) (.cond (.t 28) (.seq (.reg [.any [⟨some 29,.bd [.i .i64 0,.i .i64 0,.ns,.ns] [],none⟩,⟨some 30,.mv (.t 7),none⟩,⟨some 31,.nc (.t 30),none⟩,⟨some 32,.fa 3 (.t 31),none⟩,⟨some 33,.ld false 1 (.t 32),none⟩,⟨none,.st 4 (.t 4) (.t 29),none⟩,⟨some 5,.mv (.c (.i .i64 0)),none⟩] [(4,5)],.seq [⟨some 6,.mv (.t 33),none⟩]]) .ret) .skip)) (.seq (.reg [.any [⟨some 34,.ld true 4 (.t 8),none⟩,⟨some 35,.mv (.t 7),none⟩,⟨some 36,.nc (.t 35),none⟩,⟨some 37,.fa 1 (.t 36),none⟩,⟨some 38,.ld false 1 (.t 37),none⟩,⟨none,.st 4 (.t 4) (.t 34),none⟩] [(4,5)],.seq [⟨some 5,.mv (.t 38),none⟩],.seq [⟨some 6,.mv (.c (.i .i64 0)),none⟩]]) .ret)))))), [.c 4 true 4,.t 5,.t 6]⟩
def law13_Term.b1 : PCode := (.seq (.seq (.reg [.seq [⟨some 41,.mv (.t 9),none⟩,⟨some 42,.bi .gtr (.t 41) (.c (.i .i64 0)),none⟩]]) (.cond (.t 42) .skip (.exit 1))) (.seq (.block 2 (.reg [.any [⟨some 45,.fa 2 (.t 8),none⟩,⟨some 46,.ld false 1 (.t 45),none⟩,⟨some 47,.mv (.t 0),none⟩,⟨some 48,.ca (.c (.fn (.func law02_Maker_Level.n) [] [])) [.t 47,.c (.i .i64 3),.c (.i .i64 2),.c (.i .i64 2)],none⟩,⟨some 49,.bs 3 1 [.i .i64 0,.i .i64 0,.ns] [(0,3,.t 48)],none⟩] [(1,3),(1,4)],.seq [⟨some 50,.ap 3 (.t 46) (.t 49),none⟩],.seq [⟨some 51,.fa 2 (.t 8),none⟩],.seq [⟨none,.st 1 (.t 51) (.t 50),none⟩]])) (.reg [.seq [⟨some 43,.mv (.t 9),none⟩,⟨some 44,.bi .sub (.t 43) (.c (.i .i64 1)),none⟩,⟨some 9,.mv (.t 44),none⟩]])))
def law13_Term.c : PFun := ⟨(.seq (.reg [.seq [⟨some 6,.al [.i .i64 0,.i .i64 0,.ns,.ns],none⟩]]) (.seq (.reg [.seq [⟨some 10,.mv (.t 0),none⟩,⟨some 11,.ca (.c (.fn (.func law02_Maker_Pick.n) [] [])) [.t 10,.c (.i .i64 12)],none⟩,⟨some 7,.mv (.t 11),none⟩]]) (.seq (.seq (.reg [.seq [⟨some 12,.mv (.t 2),none⟩,⟨some 13,.bi .lss (.t 12) (.c (.i .i64 2)),none⟩]]) (.cond (.t 13) (.reg [.seq [⟨some 14,.mv (.t 7),none⟩,⟨some 15,.bi .rem (.t 14) (.c (.i .i64 4)),none⟩,⟨some 7,.mv (.t 15),none⟩]]) .skip)) (.seq (.block 0 (.seq (.reg [.seq [⟨some 17,.mv (.t 7),none⟩,⟨some 18,.bi .lss (.t 17) (.c (.i .i64 2)),none⟩,⟨some 19,.mv (.t 18),none⟩,⟨some 20,.mv (.t 1),some (19,true)⟩,⟨some 21,.bi .gtr (.t 20) (.c (.i .i64 0)),some (19,true)⟩,⟨some 22,.pk (.t 19) (.t 21) (.c (.b false)),none⟩,⟨some 16,.mv (.t 22),none⟩]]) (.cond (.t 16) (.seq (.reg [.seq [⟨some 23,.mv (.t 0),none⟩,⟨some 24,.mv (.t 1),none⟩,⟨some 25,.ca (.c (.fn (.func law02_Maker_Pick.n) [] [])) [.t 23,.t 24],none⟩,⟨some 26,.ca (.c (.fn (.func law13_Var.n) [] [])) [.t 25],none⟩,⟨none,.st 4 (.t 6) (.t 26),none⟩]]) .ret) (.seq (.reg [.seq [⟨some 28,.mv (.t 7),none⟩,⟨some 29,.bi .lss (.t 28) (.c (.i .i64 3)),none⟩,⟨some 27,.mv (.t 29),none⟩]]) (.cond (.t 27) (.seq (.reg [.seq [⟨some 30,.mv (.t 0),none⟩,⟨some 31,.ca (.c (.fn (.func law02_Maker_Level.n) [] [])) [.t 30,.c (.i .i64 3),.c (.i .i64 2),.c (.i .i64 3)],none⟩,⟨some 32,.ca (.c (.fn (.func law13_Sort.n) [] [])) [.t 31],none⟩,⟨none,.st 4 (.t 6) (.t 32),none⟩]]) .ret) (.seq (.reg [.seq [⟨some 34,.mv (.t 7),none⟩,⟨some 35,.bi .lss (.t 34) (.c (.i .i64 4)),none⟩,⟨some 33,.mv (.t 35),none⟩]]) (.cond (.t 33) (.seq (.reg [.seq [⟨some 36,.mv (.t 0),none⟩,⟨some 37,.ca (.c (.fn (.func law02_Maker_Pick.n) [] [])) [.t 36,.c (.i .i64 4)],none⟩,⟨some 38,.bd [.i .i64 0,.i .i64 0,.ns,.ns] [(0,1,.c (.i .i64 3)),(1,1,.t 37)],none⟩,⟨some 8,.al [.i .i64 0,.i .i64 0,.ns,.ns],none⟩,⟨none,.st 4 (.t 8) (.t 38),none⟩]]) (.seq (.seq (.reg [.seq [⟨some 39,.mv (.t 0),none⟩,⟨some 40,.ca (.c (.fn (.func law02_Maker_Pick.n) [] [])) [.t 39,.c (.i .i64 3)],none⟩,⟨some 9,.mv (.t 40),none⟩]]) (.block 1 (.loop law13_Term.b1))) (.seq (.reg [.seq [⟨some 52,.ld true 4 (.t 8),none⟩,⟨none,.st 4 (.t 6) (.t 52),none⟩]]) .ret))) (.seq (.reg [.seq [⟨some 54,.mv (.t 7),none⟩,⟨some 55,.bi .lss (.t 54) (.c (.i .i64 7)),none⟩,⟨some 53,.mv (.t 55),none⟩]]) (.cond (.t 53) (.seq (.reg [.seq [⟨some 56,.mv (.t 0),none⟩,⟨some 57,.mv (.t 1),none⟩,⟨some 58,.mv (.t 2),none⟩,⟨some 59,.bi .sub (.t 58) (.c (.i .i64 1)),none⟩,⟨some 60,.ca (.c (.fn (.func law13_Term.n) [] [])) [.t 56,.t 57,.t 59],none⟩,⟨some 61,.mv (.t 0),none⟩,⟨some 62,.mv (.t 1),none⟩,⟨some 63,.mv (.t 2),none⟩,⟨some 64,.bi .sub (.t 63) (.c (.i .i64 1)),none⟩,⟨some 65,.ca (.c (.fn (.func law13_Term.n) [] [])) [.t 61,.t 62,.t 64],none⟩,⟨some 66,.bs 4 2 [.i .i64 0,.i .i64 0,.ns,.ns] [(0,4,.t 60),(4,4,.t 65)],none⟩,⟨some 67,.ca (.c (.fn (.func law13_Bind.n) [] [])) [.c (.i .i64 4),.t 66],none⟩,⟨none,.st 4 (.t 6) (.t 67),none⟩]]) .ret) (.seq (.reg [.seq [⟨some 69,.mv (.t 7),none⟩,⟨some 70,.bi .lss (.t 69) (.c (.i .i64 9)),none⟩,⟨some 68,.mv (.t 70),none⟩]]) (.cond (.t 68) (.seq (.reg [.seq [⟨some 71,.mv (.t 0),none⟩,⟨some 72,.mv (.t 1),none⟩,⟨some 73,.mv (.t 2),none⟩,⟨some 74,.bi .sub (.t 73) (.c (.i .i64 1)),none⟩,⟨some 75,.ca (.c (.fn (.func law13_Term.n) [] [])) [.t 71,.t 72,.t 74],none⟩,⟨some 76,.mv (.t 0),none⟩,⟨some 77,.mv (.t 1),none⟩,⟨some 78,.bi .add (.t 77) (.c (.i .i64 1)),none⟩,⟨some 79,.mv (.t 2),none⟩,⟨some 80,.bi .sub (.t 79) (.c (.i .i64 1)),none⟩,⟨some 81,.ca (.c (.fn (.func law13_Term.n) [] [])) [.t 76,.t 78,.t 80],none⟩,⟨some 82,.bs 4 2 [.i .i64 0,.i .i64 0,.ns,.ns] [(0,4,.t 75),(4,4,.t 81)],none⟩,⟨some 83,.ca (.c (.fn (.func law13_Bind.n) [] [])) [.c (.i .i64 5),.t 82],none⟩,⟨none,.st 4 (.t 6) (.t 83),none⟩]]) .ret) (.seq (.reg [.seq [⟨some 85,.mv (.t 7),none⟩,⟨some 86,.bi .lss (.t 85) (.c (.i .i64 11)),none⟩,⟨some 84,.mv (.t 86),none⟩]]) (.cond (.t 84) (.seq (.reg [.seq [⟨some 87,.mv (.t 0),none⟩,⟨some 88,.mv (.t 1),none⟩,⟨some 89,.mv (.t 2),none⟩,⟨some 90,.bi .sub (.t 89) (.c (.i .i64 1)),none⟩,⟨some 91,.ca (.c (.fn (.func law13_Term.n) [] [])) [.t 87,.t 88,.t 90],none⟩,⟨some 92,.mv (.t 0),none⟩,⟨some 93,.mv (.t 1),none⟩,⟨some 94,.bi .add (.t 93) (.c (.i .i64 1)),none⟩,⟨some 95,.mv (.t 2),none⟩,⟨some 96,.bi .sub (.t 95) (.c (.i .i64 1)),none⟩,⟨some 97,.ca (.c (.fn (.func law13_Term.n) [] [])) [.t 92,.t 94,.t 96],none⟩,⟨some 98,.bs 4 2 [.i .i64 0,.i .i64 0,.ns,.ns] [(0,4,.t 91),(4,4,.t 97)],none⟩,⟨some 99,.ca (.c (.fn (.func law13_Bind.n) [] [])) [.c (.i .i64 6),.t 98],none⟩,⟨none,.st 4 (.t 6) (.t 99),none⟩]]) .ret) .skip))))))))))))) (.seq (.reg [.seq [⟨some 100,.mv (.t 0),none⟩,⟨some 101,.mv (.t 1),none⟩,⟨some 102,.mv (.t 2),none⟩,⟨some 103,.bi .sub (.t 102) (.c (.i .i64 1)),none⟩,⟨some 104,.ca (.c (.fn (.func law13_Term.n) [] [])) [.t 100,.t 101,.t 103],none⟩,⟨some 105,.mv (.t 0),none⟩,⟨some 106,.mv (.t 1),none⟩,⟨some 107,.mv (.t 2),none⟩,⟨some 108,.bi .sub (.t 107) (.c (.i .i64 1)),none⟩,⟨some 109,.ca (.c (.fn (.func law13_Term.n) [] [])) [.t 105,.t 106,.t 108],none⟩,⟨some 110,.mv (.t 0),none⟩,⟨some 111,.mv (.t 1),none⟩,⟨some 112,.bi .add (.t 111) (.c (.i .i64 1)),none⟩,⟨some 113,.mv (.t 2),none⟩,⟨some 114,.bi .sub (.t 113) (.c (.i .i64 1)),none⟩,⟨some 115,.ca (.c (.fn (.func law13_Term.n) [] [])) [.t 110,.t 112,.t 114],none⟩,⟨some 116,.bs 4 3 [.i .i64 0,.i .i64 0,.ns,.ns] [(0,4,.t 104),(4,4,.t 109),(8,4,.t 115)],none⟩,⟨some 117,.ca (.c (.fn (.func law13_Bind.n) [] [])) [.c (.i .i64 7),.t 116],none⟩,⟨none,.st 4 (.t 6) (.t 117),none⟩]]) .ret))))), [.c 6 true 4]⟩
def term_Right.c : PFun := ⟨(.seq (.reg [.seq [⟨some 4,.bx (.t 0),none⟩,⟨some 8,.mv (.c (.b false)),none⟩]]) (.seq (.seq (.reg [.seq [⟨some 9,.mv (.t 1),none⟩,⟨some 10,.bi .lss (.t 9) (.c (.i .i64 0)),none⟩,⟨some 11,.mv (.t 10),none⟩,⟨some 12,.mv (.t 1),some (11,false)⟩,⟨some 13,.bi .gtr (.t 12) (.c (.i .i64 1000)),some (11,false)⟩,⟨some 14,.pk (.t 11) (.c (.b true)) (.t 13),none⟩,⟨some 15,.mv (.t 14),none⟩,⟨some 16,.mv (.t 2),some (15,false)⟩,⟨some 17,.bi .lss (.t 16) (.c (.i .i64 0)),some (15,false)⟩,⟨some 18,.pk (.t 15) (.c (.b true)) (.t 17),none⟩,⟨some 19,.mv (.t 18),none⟩,⟨some 20,.mv (.t 2),some (19,false)⟩,⟨some 21,.bi .gtr (.t 20) (.c (.i .i64 5)),some (19,false)⟩,⟨some 22,.pk (.t 19) (.c (.b true)) (.t 21),none⟩,⟨some 23,.mv (.t 22),none⟩,⟨some 24,.mv (.t 3),some (23,false)⟩,⟨some 25,.bi .lss (.t 24) (.c (.i .i64 0)),some (23,false)⟩,⟨some 26,.pk (.t 23) (.c (.b true)) (.t 25),none⟩,⟨some 27,.mv (.t 26),none⟩,⟨some 28,.mv (.t 3),some (27,false)⟩,⟨some 29,.bi .gtr (.t 28) (.c (.i .i64 10)),some (27,false)⟩,⟨some 30,.pk (.t 27) (.c (.b true)) (.t 29),none⟩]]) (.cond (.t 30) (.seq (.reg [.seq [⟨some 8,.mv (.c (.b false)),none⟩]]) .ret) .skip)) (.seq (.reg [.seq [⟨some 31,.mv (.t 1),none⟩,⟨some 32,.mv (.t 2),none⟩,⟨some 33,.mv (.t 3),none⟩,⟨some 34,.bd [.i .i64 0,.i .i64 0,.i .i64 0] [(0,1,.t 31),(1,1,.t 32),(2,1,.t 33)],none⟩,⟨some 35,.ld true 4 (.t 4),none⟩,⟨some 36,.ca (.c (.fn (.func term_room_fits.n) [] [])) [.t 34,.t 35],none⟩,⟨some 8,.mv (.t 36),none⟩]]) .ret))), [.t 8]⟩
def tcode_writer_term.b1 : PCode := (.seq (.reg [.seq [⟨some 37,.bi .lss (.t 36) (.t 35),none⟩]]) (.seq (.cond (.t 37) .skip (.exit 1)) (.seq (.block 2 (.seq (.reg [.seq [⟨some 38,.ia 3 (.t 34) (.t 36),none⟩,⟨some 39,.ld true 3 (.t 38),none⟩,⟨some 5,.al [.i .i64 0,.i .i64 0,.ns],none⟩,⟨none,.st 3 (.t 5) (.t 39),none⟩]]) (.seq (.reg [.seq [⟨some 41,.ld true 3 (.t 5),none⟩,⟨some 42,.ca (.c (.fn (.func lcode_Put.n) [] [])) [.t 41],none⟩,⟨some 40,.mv (.t 42),none⟩,⟨some 43,.ex (.t 40) 0,none⟩,⟨some 44,.ex (.t 40) 1,none⟩,⟨some 6,.mv (.t 43),none⟩,⟨some 7,.mv (.t 44),none⟩]]) (.reg [.seq [⟨some 45,.mv (.t 0),none⟩,⟨some 46,.nc (.t 45),none⟩,⟨some 47,.fa 0 (.t 46),none⟩,⟨some 48,.mv (.t 6),none⟩,⟨some 49,.ca (.c (.fn (.func strings_Builder_WriteString.n) [] [])) [.t 47,.t 48],none⟩]])))) (.reg [.seq [⟨some 50,.bi .add (.t 36) (.c (.i .i64 1)),none⟩,⟨some 36,.mv (.t 50),none⟩]]))))
def tcode_writer_term.b2 : PCode := (.seq (.reg [.seq [⟨some 55,.bi .lss (.t 54) (.t 53),none⟩]]) (.seq (.cond (.t 55) .skip (.exit 3)) (.seq (.block 4 (.seq (.reg [.seq [⟨some 56,.ia 4 (.t 52) (.t 54),none⟩,⟨some 57,.ld true 4 (.t 56),none⟩,⟨some 9,.al [.i .i64 0,.i .i64 0,.ns,.ns],none⟩,⟨none,.st 4 (.t 9) (.t 57),none⟩]]) (.reg [.seq [⟨some 58,.mv (.t 0),none⟩,⟨some 59,.ld true 4 (.t 9),none⟩,⟨some 60,.ca (.c (.fn (.func tcode_writer_term.n) [] [])) [.t 58,.t 59],none⟩]]))) (.reg [.seq [⟨some 61,.bi .add (.t 54) (.c (.i .i64 1)),none⟩,⟨some 54,.mv (.t 61),none⟩]]))))
def tcode_writer_term.c : PFun := ⟨(.seq (.reg [.seq [⟨some 3,.bx (.t 1),none⟩]]) (.seq (.reg [.seq [⟨some 10,.mv (.t 0),none⟩,⟨some 11,.fa 0 (.t 3),none⟩,⟨some 12,.ld false 1 (.t 11),none⟩,⟨some 13,.ca (.c (.fn (.func tcode_writer_number.n) [] [])) [.t 10,.t 12],none⟩]]) (.seq (.seq (.reg [.seq [⟨some 14,.fa 0 (.t 3),none⟩,⟨some 15,.ld false 1 (.t 14),none⟩]]) (.block 0 (.seq (.reg [.seq [⟨some 17,.bi .eql (.t 15) (.c (.i .i64 3)),none⟩,⟨some 16,.mv (.t 17),none⟩]]) (.cond (.t 16) (.seq (.reg [.seq [⟨some 18,.mv (.t 0),none⟩,⟨some 19,.fa 1 (.t 3),none⟩,⟨some 20,.ld false 1 (.t 19),none⟩,⟨some 21,.ca (.c (.fn (.func tcode_writer_number.n) [] [])) [.t 18,.t 20],none⟩]]) (.reg [.seq [⟨some 22,.mv (.t 0),none⟩,⟨some 23,.fa 2 (.t 3),none⟩,⟨some 24,.ld false 1 (.t 23),none⟩,⟨some 25,.ln .l (.t 24),none⟩,⟨some 26,.ca (.c (.fn (.func tcode_writer_number.n) [] [])) [.t 22,.t 25],none⟩]])) (.seq (.reg [.seq [⟨some 28,.bi .eql (.t 15) (.c (.i .i64 1)),none⟩,⟨some 27,.mv (.t 28),none⟩]]) (.cond (.t 27) (.reg [.seq [⟨some 29,.mv (.t 0),none⟩,⟨some 30,.fa 1 (.t 3),none⟩,⟨some 31,.ld false 1 (.t 30),none⟩,⟨some 32,.ca (.c (.fn (.func tcode_writer_number.n) [] [])) [.t 29,.t 31],none⟩]]) .skip)))))) (.seq (.seq (.reg [.seq [⟨some 33,.fa 2 (.t 3),none⟩,⟨some 34,.ld false 1 (.t 33),none⟩,⟨some 35,.ln .l (.t 34),none⟩,⟨some 36,.mv (.c (.i .i64 0)),none⟩]]) (.block 1 (.loop tcode_writer_term.b1))) (.seq (.reg [.seq [⟨some 51,.fa 3 (.t 3),none⟩,⟨some 52,.ld false 1 (.t 51),none⟩,⟨some 53,.ln .l (.t 52),none⟩,⟨some 54,.mv (.c (.i .i64 0)),none⟩]]) (.block 3 (.loop tcode_writer_term.b2))))))), []⟩
def strings_Builder_String.c : PFun := ⟨(.seq (.reg [.seq [⟨some 2,.mv (.c (.s (bs []))),none⟩]]) (.seq (.reg [.any [⟨some 3,.mv (.t 0),none⟩,⟨some 4,.nc (.t 3),none⟩,⟨some 5,.fa 1 (.t 4),none⟩,⟨some 6,.ld false 1 (.t 5),none⟩,⟨some 7,.ub .sd (.t 6) (.c .un),none⟩,⟨some 8,.mv (.t 0),none⟩,⟨some 9,.nc (.t 8),none⟩,⟨some 10,.fa 1 (.t 9),none⟩,⟨some 11,.ld false 1 (.t 10),none⟩,⟨some 12,.ln .l (.t 11),none⟩] [(4,8),(4,9)],.seq [⟨some 13,.ub (.us 5) (.t 7) (.t 12),none⟩],.seq [⟨some 2,.mv (.t 13),none⟩]]) .ret)), [.t 2]⟩
def ref13_Shape.c : PFun := ⟨(.seq (.reg [.seq [⟨some 1,.bx (.t 0),none⟩,⟨some 2,.mv (.c (.b false)),none⟩]]) (.seq (.reg [.seq [⟨some 3,.ld true 4 (.t 1),none⟩,⟨some 4,.ca (.c (.fn (.func ref13_Right.n) [] [])) [.t 3,.c (.i .i64 1000),.c (.i .i64 5),.c (.i .i64 10)],none⟩,⟨some 2,.mv (.t 4),none⟩]]) .ret)), [.t 2]⟩
def ref14_text.b1 : PCode := (.seq (.seq (.reg [.seq [⟨some 33,.mv (.t 4),none⟩,⟨some 34,.fa 2 (.t 1),none⟩,⟨some 35,.ld false 1 (.t 34),none⟩,⟨some 36,.ln .l (.t 35),none⟩,⟨some 37,.bi .lss (.t 33) (.t 36),none⟩]]) (.cond (.t 37) .skip (.exit 0))) (.seq (.block 1 (.seq (.reg [.seq [⟨some 41,.fa 2 (.t 1),none⟩,⟨some 42,.ld false 1 (.t 41),none⟩,⟨some 43,.mv (.t 4),none⟩,⟨some 44,.ia 3 (.t 42) (.t 43),none⟩,⟨some 45,.ld true 3 (.t 44),none⟩,⟨some 46,.ca (.c (.fn (.func ref03_Put.n) [] [])) [.t 45],none⟩,⟨some 40,.mv (.t 46),none⟩,⟨some 47,.ex (.t 40) 0,none⟩,⟨some 48,.ex (.t 40) 1,none⟩,⟨some 5,.mv (.t 47),none⟩,⟨some 6,.mv (.t 48),none⟩]]) (.reg [.seq [⟨some 49,.mv (.t 3),none⟩,⟨some 50,.mv (.t 5),none⟩,⟨some 51,.bi .add (.t 49) (.t 50),none⟩,⟨some 3,.mv (.t 51),none⟩]]))) (.reg [.seq [⟨some 38,.mv (.t 4),none⟩,⟨some 39,.bi .add (.t 38) (.c (.i .i64 1)),none⟩,⟨some 4,.mv (.t 39),none⟩]])))
def ref14_text.b2 : PCode := (.seq (.seq (.reg [.seq [⟨some 52,.mv (.t 7),none⟩,⟨some 53,.fa 3 (.t 1),none⟩,⟨some 54,.ld false 1 (.t 53),none⟩,⟨some 55,.ln .l (.t 54),none⟩,⟨some 56,.bi .lss (.t 52) (.t 55),none⟩]]) (.cond (.t 56) .skip (.exit 2))) (.seq (.block 3 (.reg [.seq [⟨some 59,.mv (.t 3),none⟩,⟨some 60,.fa 3 (.t 1),none⟩,⟨some 61,.ld false 1 (.t 60),none⟩,⟨some 62,.mv (.t 7),none⟩,⟨some 63,.ia 4 (.t 61) (.t 62),none⟩,⟨some 64,.ld true 4 (.t 63),none⟩,⟨some 65,.ca (.c (.fn (.func ref14_text.n) [] [])) [.t 64],none⟩,⟨some 66,.bi .add (.t 59) (.t 65),none⟩,⟨some 3,.mv (.t 66),none⟩]])) (.reg [.seq [⟨some 57,.mv (.t 7),none⟩,⟨some 58,.bi .add (.t 57) (.c (.i .i64 1)),none⟩,⟨some 7,.mv (.t 58),none⟩]])))
def ref14_text.c : PFun := ⟨(.seq (.reg [.seq [⟨some 1,.bx (.t 0),none⟩,⟨some 2,.mv (.c (.s (bs []))),none⟩]]) (.seq (.reg [.seq [⟨some 8,.fa 0 (.t 1),none⟩,⟨some 9,.ld false 1 (.t 8),none⟩,⟨some 10,.ca (.c (.fn (.func ref14_num.n) [] [])) [.t 9],none⟩,⟨some 3,.mv (.t 10),none⟩]]) (.seq (.seq (.reg [.seq [⟨some 11,.fa 0 (.t 1),none⟩,⟨some 12,.ld false 1 (.t 11),none⟩,⟨some 13,.bi .eql (.t 12) (.c (.i .i64 1)),none⟩,⟨some 14,.mv (.t 13),none⟩,⟨some 15,.fa 0 (.t 1),some (14,false)⟩,⟨some 16,.ld false 1 (.t 15),some (14,false)⟩,⟨some 17,.bi .eql (.t 16) (.c (.i .i64 3)),some (14,false)⟩,⟨some 18,.pk (.t 14) (.c (.b true)) (.t 17),none⟩]]) (.cond (.t 18) (.reg [.seq [⟨some 19,.mv (.t 3),none⟩,⟨some 20,.fa 1 (.t 1),none⟩,⟨some 21,.ld false 1 (.t 20),none⟩,⟨some 22,.ca (.c (.fn (.func ref14_num.n) [] [])) [.t 21],none⟩,⟨some 23,.bi .add (.t 19) (.t 22),none⟩,⟨some 3,.mv (.t 23),none⟩]]) .skip)) (.seq (.seq (.reg [.seq [⟨some 24,.fa 0 (.t 1),none⟩,⟨some 25,.ld false 1 (.t 24),none⟩,⟨some 26,.bi .eql (.t 25) (.c (.i .i64 3)),none⟩]]) (.cond (.t 26) (.reg [.seq [⟨some 27,.mv (.t 3),none⟩,⟨some 28,.fa 2 (.t 1),none⟩,⟨some 29,.ld false 1 (.t 28),none⟩,⟨some 30,.ln .l (.t 29),none⟩,⟨some 31,.ca (.c (.fn (.func ref14_num.n) [] [])) [.t 30],none⟩,⟨some 32,.bi .add (.t 27) (.t 31),none⟩,⟨some 3,.mv (.t 32),none⟩]]) .skip)) (.seq (.seq (.reg [.seq [⟨some 4,.mv (.c (.i .i64 0)),none⟩]]) (.block 0 (.loop ref14_text.b1))) (.seq (.seq (.reg [.seq [⟨some 7,.mv (.c (.i .i64 0)),none⟩]]) (.block 2 (.loop ref14_text.b2))) (.seq (.reg [.seq [⟨some 67,.mv (.t 3),none⟩,⟨some 2,.mv (.t 67),none⟩]]) .ret))))))), [.t 2]⟩
def tcode_Get_1.c : PFun := ⟨(.seq (.reg [.seq [⟨some 4,.ld false 1 (.t 0),none⟩,⟨some 5,.nc (.t 4),none⟩,⟨some 6,.fa 3 (.t 5),none⟩,⟨some 7,.ld false 1 (.t 6),none⟩,⟨none,.st 1 (.t 1) (.t 7),none⟩]]) (.seq (.reg [.seq [⟨some 8,.ld false 1 (.t 1),none⟩,⟨some 9,.bi .neq (.t 8) (.c (.i .i64 0)),none⟩]]) (.cond (.t 9) (.reg [.seq [⟨some 10,.bd [.i .i64 0,.i .i64 0,.ns,.ns] [],none⟩,⟨none,.st 4 (.t 2) (.t 10),none⟩,⟨none,.st 1 (.t 3) (.c (.i .i64 0)),none⟩]]) .skip))), []⟩
def tcode_reader_term.c : PFun := ⟨(.seq (.reg [.seq [⟨some 3,.bx (.t 1),none⟩,⟨some 4,.al [.i .i64 0,.i .i64 0,.ns,.ns],none⟩]]) (.seq (.seq (.reg [.seq [⟨some 9,.fa 0 (.t 3),none⟩,⟨some 10,.ld false 1 (.t 9),none⟩,⟨some 11,.bi .geq (.t 10) (.c (.i .i64 30)),none⟩,⟨some 12,.mv (.t 11),none⟩,⟨some 13,.mv (.t 0),some (12,false)⟩,⟨some 14,.nc (.t 13),some (12,false)⟩,⟨some 15,.fa 2 (.t 14),some (12,false)⟩,⟨some 16,.ld false 1 (.t 15),some (12,false)⟩,⟨some 17,.bi .geq (.t 16) (.c (.i .i64 600)),some (12,false)⟩,⟨some 18,.pk (.t 12) (.c (.b true)) (.t 17),none⟩]]) (.cond (.t 18) (.seq (.reg [.seq [⟨some 19,.mv (.t 0),none⟩,⟨some 20,.ca (.c (.fn (.func tcode_reader_fail.n) [] [])) [.t 19,.c (.i .i64 2)],none⟩]]) (.seq (.reg [.seq [⟨some 21,.bd [.i .i64 0,.i .i64 0,.ns,.ns] [],none⟩,⟨none,.st 4 (.t 4) (.t 21),none⟩]]) .ret)) .skip)) (.seq (.reg [.seq [⟨some 22,.mv (.t 0),none⟩,⟨some 23,.nc (.t 22),none⟩,⟨some 24,.fa 2 (.t 23),none⟩,⟨some 25,.ld false 1 (.t 24),none⟩,⟨some 26,.bi .add (.t 25) (.c (.i .i64 1)),none⟩,⟨some 27,.nc (.t 22),none⟩,⟨some 28,.fa 2 (.t 27),none⟩,⟨none,.st 1 (.t 28) (.t 26),none⟩]]) (.seq (.reg [.seq [⟨some 29,.mv (.t 0),none⟩,⟨some 30,.ca (.c (.fn (.func tcode_reader_number.n) [] [])) [.t 29,.c (.i .i64 1099511627777)],none⟩,⟨some 5,.mv (.t 30),none⟩]]) (.seq (.reg [.seq [⟨some 32,.ca (.c (.fn (.func tcode_readers.n) [] [])) [],none⟩,⟨some 33,.mv (.t 5),none⟩,⟨some 34,.lk (.one .i) .nf (.t 32) (.t 33) true,none⟩,⟨some 31,.mv (.t 34),none⟩,⟨some 35,.ex (.t 31) 0,none⟩,⟨some 36,.ex (.t 31) 1,none⟩,⟨some 6,.mv (.t 35),none⟩,⟨some 7,.mv (.t 36),none⟩]]) (.seq (.seq (.reg [.seq [⟨some 37,.mv (.t 7),none⟩,⟨some 38,.un .not (.t 37),none⟩]]) (.cond (.t 38) (.seq (.reg [.seq [⟨some 39,.mv (.t 0),none⟩,⟨some 40,.ca (.c (.fn (.func tcode_reader_fail.n) [] [])) [.t 39,.c (.i .i64 20)],none⟩]]) (.seq (.reg [.seq [⟨some 41,.bd [.i .i64 0,.i .i64 0,.ns,.ns] [],none⟩,⟨none,.st 4 (.t 4) (.t 41),none⟩]]) .ret)) .skip)) (.seq (.reg [.seq [⟨some 42,.mv (.t 6),none⟩,⟨some 43,.mv (.t 0),none⟩,⟨some 44,.ld true 2 (.t 3),none⟩,⟨some 45,.ca (.t 42) [.t 43,.t 44],none⟩,⟨some 8,.al [.i .i64 0,.i .i64 0,.ns,.ns],none⟩,⟨none,.st 4 (.t 8) (.t 45),none⟩]]) (.seq (.reg [.seq [⟨some 46,.mv (.t 5),none⟩,⟨some 47,.fa 0 (.t 8),none⟩,⟨none,.st 1 (.t 47) (.t 46),none⟩]]) (.seq (.reg [.seq [⟨some 48,.ld true 4 (.t 8),none⟩,⟨none,.st 4 (.t 4) (.t 48),none⟩]]) .ret))))))))), [.c 4 true 4]⟩
def ref02_Same.b1 : PCode := (.seq (.seq (.reg [.seq [⟨some 27,.mv (.t 5),none⟩,⟨some 28,.fa 2 (.t 2),none⟩,⟨some 29,.ld false 1 (.t 28),none⟩,⟨some 30,.ln .l (.t 29),none⟩,⟨some 31,.bi .lss (.t 27) (.t 30),none⟩]]) (.cond (.t 31) .skip (.exit 0))) (.seq (.block 1 (.seq (.reg [.any [⟨some 34,.fa 2 (.t 2),none⟩,⟨some 35,.ld false 1 (.t 34),none⟩,⟨some 36,.mv (.t 5),none⟩,⟨some 37,.ia 3 (.t 35) (.t 36),none⟩,⟨some 38,.ld true 3 (.t 37),none⟩,⟨some 39,.fa 2 (.t 3),none⟩,⟨some 40,.ld false 1 (.t 39),none⟩,⟨some 41,.mv (.t 5),none⟩,⟨some 42,.ia 3 (.t 40) (.t 41),none⟩,⟨some 43,.ld true 3 (.t 42),none⟩] [],.seq [⟨some 44,.ca (.c (.fn (.func ref02_Same.n) [] [])) [.t 38,.t 43],none⟩],.seq [⟨some 45,.un .not (.t 44),none⟩]]) (.cond (.t 45) (.seq (.reg [.seq [⟨some 4,.mv (.c (.b false)),none⟩]]) .ret) .skip))) (.reg [.seq [⟨some 32,.mv (.t 5),none⟩,⟨some 33,.bi .add (.t 32) (.c (.i .i64 1)),none⟩,⟨some 5,.mv (.t 33),none⟩]])))
def ref02_Same.c : PFun := ⟨(.seq (.reg [.seq [⟨some 2,.bx (.t 0),none⟩,⟨some 3,.bx (.t 1),none⟩,⟨some 4,.mv (.c (.b false)),none⟩]]) (.seq (.seq (.reg [.seq [⟨some 6,.fa 0 (.t 2),none⟩,⟨some 7,.ld false 1 (.t 6),none⟩,⟨some 8,.fa 0 (.t 3),none⟩,⟨some 9,.ld false 1 (.t 8),none⟩,⟨some 10,.bi .neq (.t 7) (.t 9),none⟩,⟨some 11,.mv (.t 10),none⟩,⟨some 12,.fa 1 (.t 2),some (11,false)⟩,⟨some 13,.ld false 1 (.t 12),some (11,false)⟩,⟨some 14,.fa 1 (.t 3),some (11,false)⟩,⟨some 15,.ld false 1 (.t 14),some (11,false)⟩,⟨some 16,.bi .neq (.t 13) (.t 15),some (11,false)⟩,⟨some 17,.pk (.t 11) (.c (.b true)) (.t 16),none⟩,⟨some 18,.mv (.t 17),none⟩,⟨some 19,.fa 2 (.t 2),some (18,false)⟩,⟨some 20,.ld false 1 (.t 19),some (18,false)⟩,⟨some 21,.ln .l (.t 20),some (18,false)⟩,⟨some 22,.fa 2 (.t 3),some (18,false)⟩,⟨some 23,.ld false 1 (.t 22),some (18,false)⟩,⟨some 24,.ln .l (.t 23),some (18,false)⟩,⟨some 25,.bi .neq (.t 21) (.t 24),some (18,false)⟩,⟨some 26,.pk (.t 18) (.c (.b true)) (.t 25),none⟩]]) (.cond (.t 26) (.seq (.reg [.seq [⟨some 4,.mv (.c (.b false)),none⟩]]) .ret) .skip)) (.seq (.seq (.reg [.seq [⟨some 5,.mv (.c (.i .i64 0)),none⟩]]) (.block 0 (.loop ref02_Same.b1))) (.seq (.reg [.seq [⟨some 4,.mv (.c (.b true)),none⟩]]) .ret)))), [.t 4]⟩
def law02_Maker_Pick.c : PFun := ⟨(.seq (.reg [.seq [⟨some 4,.mv (.c (.i .i64 0)),none⟩]]) (.seq (.reg [.seq [⟨some 5,.mv (.t 0),none⟩,⟨some 6,.nc (.t 5),none⟩,⟨some 7,.fa 1 (.t 6),none⟩,⟨some 8,.ld false 1 (.t 7),none⟩,⟨some 9,.bi .add (.t 8) (.c (.i .i64 1)),none⟩,⟨some 10,.nc (.t 5),none⟩,⟨some 11,.fa 1 (.t 10),none⟩,⟨none,.st 1 (.t 11) (.t 9),none⟩]]) (.seq (.seq (.reg [.any [⟨some 12,.mv (.t 0),none⟩,⟨some 13,.nc (.t 12),none⟩,⟨some 14,.fa 1 (.t 13),none⟩,⟨some 15,.ld false 1 (.t 14),none⟩,⟨some 16,.mv (.t 0),none⟩,⟨some 17,.nc (.t 16),none⟩,⟨some 18,.fa 0 (.t 17),none⟩,⟨some 19,.ld false 1 (.t 18),none⟩,⟨some 20,.ln .l (.t 19),none⟩] [],.seq [⟨some 21,.bi .gtr (.t 15) (.t 20),none⟩]]) (.cond (.t 21) (.seq (.reg [.seq [⟨some 4,.mv (.c (.i .i64 0)),none⟩]]) .ret) .skip)) (.seq (.reg [.any [⟨some 22,.mv (.t 0),none⟩,⟨some 23,.nc (.t 22),none⟩,⟨some 24,.fa 0 (.t 23),none⟩,⟨some 25,.ld false 1 (.t 24),none⟩,⟨some 26,.mv (.t 0),none⟩,⟨some 27,.nc (.t 26),none⟩,⟨some 28,.fa 1 (.t 27),none⟩,⟨some 29,.ld false 1 (.t 28),none⟩,⟨some 30,.bi .sub (.t 29) (.c (.i .i64 1)),none⟩,⟨some 31,.ia 1 (.t 25) (.t 30),none⟩,⟨some 32,.ld false 1 (.t 31),none⟩,⟨some 33,.ci .i64 (.t 32),none⟩,⟨some 34,.mv (.t 1),none⟩] [],.seq [⟨some 35,.bi .rem (.t 33) (.t 34),none⟩],.seq [⟨some 4,.mv (.t 35),none⟩]]) .ret)))), [.t 4]⟩
def level_Right.c : PFun := ⟨(.seq (.reg [.seq [⟨some 3,.bx (.t 0),none⟩,⟨some 6,.mv (.c (.b false)),none⟩]]) (.seq (.seq (.reg [.seq [⟨some 7,.mv (.t 1),none⟩,⟨some 8,.bi .lss (.t 7) (.c (.i .i64 0)),none⟩,⟨some 9,.mv (.t 8),none⟩,⟨some 10,.mv (.t 1),some (9,false)⟩,⟨some 11,.bi .gtr (.t 10) (.c (.i .i64 5)),some (9,false)⟩,⟨some 12,.pk (.t 9) (.c (.b true)) (.t 11),none⟩,⟨some 13,.mv (.t 12),none⟩,⟨some 14,.mv (.t 2),some (13,false)⟩,⟨some 15,.bi .lss (.t 14) (.c (.i .i64 0)),some (13,false)⟩,⟨some 16,.pk (.t 13) (.c (.b true)) (.t 15),none⟩,⟨some 17,.mv (.t 16),none⟩,⟨some 18,.mv (.t 2),some (17,false)⟩,⟨some 19,.bi .gtr (.t 18) (.c (.i .i64 10)),some (17,false)⟩,⟨some 20,.pk (.t 17) (.c (.b true)) (.t 19),none⟩]]) (.cond (.t 20) (.seq (.reg [.seq [⟨some 6,.mv (.c (.b false)),none⟩]]) .ret) .skip)) (.seq (.reg [.seq [⟨some 21,.ld true 3 (.t 3),none⟩,⟨some 22,.ca (.c (.fn (.func level_nodes.n) [] [])) [.t 21,.c (.i .i64 101)],none⟩,⟨some 23,.bi .leq (.t 22) (.c (.i .i64 100)),none⟩,⟨some 24,.mv (.t 23),none⟩,⟨some 25,.ld true 3 (.t 3),some (24,true)⟩,⟨some 26,.mv (.t 1),some (24,true)⟩,⟨some 27,.mv (.t 2),some (24,true)⟩,⟨some 28,.ca (.c (.fn (.func level_right.n) [] [])) [.t 25,.t 26,.t 27,.c (.i .i64 12)],some (24,true)⟩,⟨some 29,.pk (.t 24) (.t 28) (.c (.b false)),none⟩,⟨some 6,.mv (.t 29),none⟩]]) .ret))), [.t 6]⟩
def ref02_Right.c : PFun := ⟨(.seq (.reg [.seq [⟨some 3,.bx (.t 0),none⟩,⟨some 6,.mv (.c (.b false)),none⟩]]) (.seq (.reg [.seq [⟨some 7,.mv (.t 1),none⟩,⟨some 8,.bi .geq (.t 7) (.c (.i .i64 0)),none⟩,⟨some 9,.mv (.t 8),none⟩,⟨some 10,.mv (.t 1),some (9,true)⟩,⟨some 11,.bi .leq (.t 10) (.c (.i .i64 5)),some (9,true)⟩,⟨some 12,.pk (.t 9) (.t 11) (.c (.b false)),none⟩,⟨some 13,.mv (.t 12),none⟩,⟨some 14,.mv (.t 2),some (13,true)⟩,⟨some 15,.bi .geq (.t 14) (.c (.i .i64 0)),some (13,true)⟩,⟨some 16,.pk (.t 13) (.t 15) (.c (.b false)),none⟩,⟨some 17,.mv (.t 16),none⟩,⟨some 18,.mv (.t 2),some (17,true)⟩,⟨some 19,.bi .leq (.t 18) (.c (.i .i64 10)),some (17,true)⟩,⟨some 20,.pk (.t 17) (.t 19) (.c (.b false)),none⟩,⟨some 21,.mv (.t 20),none⟩,⟨some 22,.ld true 3 (.t 3),some (21,true)⟩,⟨some 23,.ca (.c (.fn (.func ref02_Nodes.n) [] [])) [.t 22,.c (.i .i64 101)],some (21,true)⟩,⟨some 24,.bi .leq (.t 23) (.c (.i .i64 100)),some (21,true)⟩,⟨some 25,.pk (.t 21) (.t 24) (.c (.b false)),none⟩,⟨some 26,.mv (.t 25),none⟩,⟨some 27,.ld true 3 (.t 3),some (26,true)⟩,⟨some 28,.mv (.t 1),some (26,true)⟩,⟨some 29,.mv (.t 2),some (26,true)⟩,⟨some 30,.ca (.c (.fn (.func ref02_right.n) [] [])) [.t 27,.t 28,.t 29,.c (.i .i64 12)],some (26,true)⟩,⟨some 31,.pk (.t 26) (.t 30) (.c (.b false)),none⟩,⟨some 6,.mv (.t 31),none⟩]]) .ret)), [.t 6]⟩
def ref02_naturals.b1 : PCode := (.seq (.seq (.reg [.seq [⟨some 4,.mv (.t 3),none⟩,⟨some 5,.mv (.t 0),none⟩,⟨some 6,.ln .l (.t 5),none⟩,⟨some 7,.bi .lss (.t 4) (.t 6),none⟩]]) (.cond (.t 7) .skip (.exit 0))) (.seq (.block 1 (.seq (.reg [.seq [⟨some 10,.mv (.t 0),none⟩,⟨some 11,.mv (.t 3),none⟩,⟨some 12,.ia 1 (.t 10) (.t 11),none⟩,⟨some 13,.ld false 1 (.t 12),none⟩,⟨some 14,.bi .lss (.t 13) (.c (.i .i64 0)),none⟩,⟨some 15,.mv (.t 14),none⟩,⟨some 16,.mv (.t 0),some (15,false)⟩,⟨some 17,.mv (.t 3),some (15,false)⟩,⟨some 18,.ia 1 (.t 16) (.t 17),some (15,false)⟩,⟨some 19,.ld false 1 (.t 18),some (15,false)⟩,⟨some 20,.bi .gtr (.t 19) (.c (.i .i64 1099511627776)),some (15,false)⟩,⟨some 21,.pk (.t 15) (.c (.b true)) (.t 20),none⟩]]) (.cond (.t 21) (.seq (.reg [.seq [⟨some 2,.mv (.c (.b false)),none⟩]]) .ret) .skip))) (.reg [.seq [⟨some 8,.mv (.t 3),none⟩,⟨some 9,.bi .add (.t 8) (.c (.i .i64 1)),none⟩,⟨some 3,.mv (.t 9),none⟩]])))
def ref02_naturals.c : PFun := ⟨(.seq (.reg [.seq [⟨some 2,.mv (.c (.b false)),none⟩]]) (.seq (.seq (.reg [.seq [⟨some 3,.mv (.c (.i .i64 0)),none⟩]]) (.block 0 (.loop ref02_naturals.b1))) (.seq (.reg [.seq [⟨some 2,.mv (.c (.b true)),none⟩]]) .ret))), [.t 2]⟩
def ref02_Value.c : PFun := ⟨(.seq (.reg [.seq [⟨some 3,.bx (.t 0),none⟩,⟨some 6,.mv (.c (.i .i64 0)),none⟩]]) (.seq (.seq (.reg [.seq [⟨some 8,.fa 0 (.t 3),none⟩,⟨some 9,.ld false 1 (.t 8),none⟩]]) (.block 0 (.seq (.reg [.seq [⟨some 11,.bi .eql (.t 9) (.c (.i .i64 2)),none⟩,⟨some 10,.mv (.t 11),none⟩]]) (.cond (.t 10) (.seq (.reg [.seq [⟨some 12,.fa 2 (.t 3),none⟩,⟨some 13,.ld false 1 (.t 12),none⟩,⟨some 14,.ia 3 (.t 13) (.c (.i .i64 0)),none⟩,⟨some 15,.ld true 3 (.t 14),none⟩,⟨some 16,.mv (.t 1),none⟩,⟨some 17,.mv (.t 2),none⟩,⟨some 18,.ca (.c (.fn (.func ref02_Value.n) [] [])) [.t 15,.t 16,.t 17],none⟩,⟨some 19,.bi .add (.c (.i .i64 1)) (.t 18),none⟩,⟨some 6,.mv (.t 19),none⟩]]) .ret) (.seq (.reg [.seq [⟨some 21,.bi .eql (.t 9) (.c (.i .i64 3)),none⟩,⟨some 20,.mv (.t 21),none⟩]]) (.cond (.t 20) (.seq (.reg [.any [⟨some 22,.fa 2 (.t 3),none⟩,⟨some 23,.ld false 1 (.t 22),none⟩,⟨some 24,.ia 3 (.t 23) (.c (.i .i64 0)),none⟩,⟨some 25,.ld true 3 (.t 24),none⟩,⟨some 26,.mv (.t 1),none⟩,⟨some 27,.mv (.t 2),none⟩,⟨some 28,.ca (.c (.fn (.func ref02_Value.n) [] [])) [.t 25,.t 26,.t 27],none⟩,⟨some 29,.fa 2 (.t 3),none⟩,⟨some 30,.ld false 1 (.t 29),none⟩,⟨some 31,.ia 3 (.t 30) (.c (.i .i64 1)),none⟩,⟨some 32,.ld true 3 (.t 31),none⟩,⟨some 33,.mv (.t 1),none⟩,⟨some 34,.mv (.t 2),none⟩] [(6,8),(6,10)],.seq [⟨some 35,.ca (.c (.fn (.func ref02_Value.n) [] [])) [.t 32,.t 33,.t 34],none⟩],.seq [⟨some 36,.mx [.t 28,.t 35],none⟩],.seq [⟨some 6,.mv (.t 36),none⟩]]) .ret) (.seq (.reg [.seq [⟨some 38,.bi .eql (.t 9) (.c (.i .i64 4)),none⟩,⟨some 37,.mv (.t 38),none⟩]]) (.cond (.t 37) (.seq (.reg [.seq [⟨some 39,.fa 2 (.t 3),none⟩,⟨some 40,.ld false 1 (.t 39),none⟩,⟨some 41,.ia 3 (.t 40) (.c (.i .i64 1)),none⟩,⟨some 42,.ld true 3 (.t 41),none⟩,⟨some 43,.mv (.t 1),none⟩,⟨some 44,.mv (.t 2),none⟩,⟨some 45,.ca (.c (.fn (.func ref02_Value.n) [] [])) [.t 42,.t 43,.t 44],none⟩,⟨some 7,.mv (.t 45),none⟩]]) (.seq (.seq (.reg [.seq [⟨some 46,.mv (.t 7),none⟩,⟨some 47,.bi .eql (.t 46) (.c (.i .i64 0)),none⟩]]) (.cond (.t 47) (.seq (.reg [.seq [⟨some 6,.mv (.c (.i .i64 0)),none⟩]]) .ret) .skip)) (.seq (.reg [.seq [⟨some 48,.fa 2 (.t 3),none⟩,⟨some 49,.ld false 1 (.t 48),none⟩,⟨some 50,.ia 3 (.t 49) (.c (.i .i64 0)),none⟩,⟨some 51,.ld true 3 (.t 50),none⟩,⟨some 52,.mv (.t 1),none⟩,⟨some 53,.mv (.t 2),none⟩,⟨some 54,.ca (.c (.fn (.func ref02_Value.n) [] [])) [.t 51,.t 52,.t 53],none⟩,⟨some 55,.mv (.t 7),none⟩,⟨some 56,.mx [.t 54,.t 55],none⟩,⟨some 6,.mv (.t 56),none⟩]]) .ret))) (.seq (.reg [.seq [⟨some 58,.bi .eql (.t 9) (.c (.i .i64 5)),none⟩,⟨some 57,.mv (.t 58),none⟩]]) (.cond (.t 57) (.seq (.reg [.seq [⟨some 59,.mv (.t 1),none⟩,⟨some 60,.fa 1 (.t 3),none⟩,⟨some 61,.ld false 1 (.t 60),none⟩,⟨some 62,.ia 1 (.t 59) (.t 61),none⟩,⟨some 63,.ld false 1 (.t 62),none⟩,⟨some 6,.mv (.t 63),none⟩]]) .ret) (.seq (.reg [.seq [⟨some 65,.bi .eql (.t 9) (.c (.i .i64 6)),none⟩,⟨some 64,.mv (.t 65),none⟩]]) (.cond (.t 64) (.seq (.reg [.seq [⟨some 66,.mv (.t 2),none⟩,⟨some 67,.fa 1 (.t 3),none⟩,⟨some 68,.ld false 1 (.t 67),none⟩,⟨some 69,.ia 1 (.t 66) (.t 68),none⟩,⟨some 70,.ld false 1 (.t 69),none⟩,⟨some 6,.mv (.t 70),none⟩]]) .ret) .skip)))))))))))) (.seq (.reg [.seq [⟨some 6,.mv (.c (.i .i64 0)),none⟩]]) .ret))), [.t 6]⟩
def ref14_reader_term.b1 : PCode := (.seq (.seq (.reg [.seq [⟨some 67,.mv (.t 11),none⟩,⟨some 68,.mv (.t 10),none⟩,⟨some 69,.bi .lss (.t 67) (.t 68),none⟩,⟨some 70,.mv (.t 69),none⟩,⟨some 71,.mv (.t 0),some (70,true)⟩,⟨some 72,.nc (.t 71),some (70,true)⟩,⟨some 73,.fa 3 (.t 72),some (70,true)⟩,⟨some 74,.ld false 1 (.t 73),some (70,true)⟩,⟨some 75,.bi .eql (.t 74) (.c (.i .i64 0)),some (70,true)⟩,⟨some 76,.pk (.t 70) (.t 75) (.c (.b false)),none⟩]]) (.cond (.t 76) .skip (.exit 1))) (.seq (.block 2 (.reg [.any [⟨some 79,.fa 2 (.t 7),none⟩,⟨some 80,.ld false 1 (.t 79),none⟩,⟨some 81,.mv (.t 0),none⟩,⟨some 82,.ca (.c (.fn (.func ref14_reader_level.n) [] [])) [.t 81],none⟩,⟨some 83,.bs 3 1 [.i .i64 0,.i .i64 0,.ns] [(0,3,.t 82)],none⟩] [(1,3),(1,4)],.seq [⟨some 84,.ap 3 (.t 80) (.t 83),none⟩],.seq [⟨some 85,.fa 2 (.t 7),none⟩],.seq [⟨none,.st 1 (.t 85) (.t 84),none⟩]])) (.reg [.seq [⟨some 77,.mv (.t 11),none⟩,⟨some 78,.bi .add (.t 77) (.c (.i .i64 1)),none⟩,⟨some 11,.mv (.t 78),none⟩]])))
def ref14_reader_term.b2 : PCode := (.seq (.seq (.reg [.seq [⟨some 93,.mv (.t 12),none⟩,⟨some 94,.mv (.t 8),none⟩,⟨some 95,.bi .lss (.t 93) (.t 94),none⟩,⟨some 96,.mv (.t 95),none⟩,⟨some 97,.mv (.t 0),some (96,true)⟩,⟨some 98,.nc (.t 97),some (96,true)⟩,⟨some 99,.fa 3 (.t 98),some (96,true)⟩,⟨some 100,.ld false 1 (.t 99),some (96,true)⟩,⟨some 101,.bi .eql (.t 100) (.c (.i .i64 0)),some (96,true)⟩,⟨some 102,.pk (.t 96) (.t 101) (.c (.b false)),none⟩]]) (.cond (.t 102) .skip (.exit 3))) (.seq (.block 4 (.seq (.reg [.seq [⟨some 105,.mv (.t 2),none⟩,⟨some 13,.mv (.t 105),none⟩]]) (.seq (.seq (.reg [.seq [⟨some 106,.mv (.t 12),none⟩,⟨some 107,.mv (.t 9),none⟩,⟨some 108,.bi .eql (.t 106) (.t 107),none⟩]]) (.cond (.t 108) (.reg [.seq [⟨some 109,.mv (.t 13),none⟩,⟨some 110,.bi .add (.t 109) (.c (.i .i64 1)),none⟩,⟨some 13,.mv (.t 110),none⟩]]) .skip)) (.reg [.any [⟨some 111,.fa 3 (.t 7),none⟩,⟨some 112,.ld false 1 (.t 111),none⟩,⟨some 113,.mv (.t 0),none⟩,⟨some 114,.mv (.t 1),none⟩,⟨some 115,.bi .add (.t 114) (.c (.i .i64 1)),none⟩,⟨some 116,.mv (.t 13),none⟩,⟨some 117,.ca (.c (.fn (.func ref14_reader_term.n) [] [])) [.t 113,.t 115,.t 116],none⟩,⟨some 118,.bs 4 1 [.i .i64 0,.i .i64 0,.ns,.ns] [(0,4,.t 117)],none⟩] [(1,6),(1,7)],.seq [⟨some 119,.ap 4 (.t 112) (.t 118),none⟩],.seq [⟨some 120,.fa 3 (.t 7),none⟩],.seq [⟨none,.st 1 (.t 120) (.t 119),none⟩]])))) (.reg [.seq [⟨some 103,.mv (.t 12),none⟩,⟨some 104,.bi .add (.t 103) (.c (.i .i64 1)),none⟩,⟨some 12,.mv (.t 104),none⟩]])))
def ref14_reader_term.c : PFun := ⟨(.seq (.reg [.seq [⟨some 6,.al [.i .i64 0,.i .i64 0,.ns,.ns],none⟩]]) (.seq (.seq (.reg [.seq [⟨some 14,.mv (.t 1),none⟩,⟨some 15,.bi .geq (.t 14) (.c (.i .i64 30)),none⟩,⟨some 16,.mv (.t 15),none⟩,⟨some 17,.mv (.t 0),some (16,false)⟩,⟨some 18,.nc (.t 17),some (16,false)⟩,⟨some 19,.fa 2 (.t 18),some (16,false)⟩,⟨some 20,.ld false 1 (.t 19),some (16,false)⟩,⟨some 21,.bi .geq (.t 20) (.c (.i .i64 600)),some (16,false)⟩,⟨some 22,.pk (.t 16) (.c (.b true)) (.t 21),none⟩]]) (.cond (.t 22) (.seq (.reg [.seq [⟨some 23,.mv (.t 0),none⟩,⟨some 24,.nc (.t 23),none⟩,⟨some 25,.fa 3 (.t 24),none⟩,⟨none,.st 1 (.t 25) (.c (.i .i64 2)),none⟩]]) (.seq (.reg [.seq [⟨some 26,.bd [.i .i64 0,.i .i64 0,.ns,.ns] [],none⟩,⟨none,.st 4 (.t 6) (.t 26),none⟩]]) .ret)) .skip)) (.seq (.reg [.seq [⟨some 27,.mv (.t 0),none⟩,⟨some 28,.nc (.t 27),none⟩,⟨some 29,.fa 2 (.t 28),none⟩,⟨some 30,.ld false 1 (.t 29),none⟩,⟨some 31,.bi .add (.t 30) (.c (.i .i64 1)),none⟩,⟨some 32,.nc (.t 27),none⟩,⟨some 33,.fa 2 (.t 32),none⟩,⟨none,.st 1 (.t 33) (.t 31),none⟩]]) (.seq (.reg [.seq [⟨some 34,.mv (.t 0),none⟩,⟨some 35,.ca (.c (.fn (.func ref14_reader_number.n) [] [])) [.t 34,.c (.i .i64 1099511627777)],none⟩,⟨some 36,.bd [.i .i64 0,.i .i64 0,.ns,.ns] [(0,1,.t 35)],none⟩,⟨some 7,.al [.i .i64 0,.i .i64 0,.ns,.ns],none⟩,⟨none,.st 4 (.t 7) (.t 36),none⟩]]) (.seq (.reg [.seq [⟨some 8,.mv (.c (.i .i64 0)),none⟩]]) (.seq (.reg [.seq [⟨some 9,.mv (.c (.i .i64 (-1))),none⟩]]) (.seq (.seq (.reg [.seq [⟨some 37,.fa 0 (.t 7),none⟩,⟨some 38,.ld false 1 (.t 37),none⟩]]) (.block 0 (.seq (.reg [.seq [⟨some 48,.bi .eql (.t 38) (.c (.i .i64 1)),none⟩,⟨some 47,.mv (.t 48),none⟩]]) (.cond (.t 47) (.reg [.seq [⟨some 49,.mv (.t 0),none⟩,⟨some 50,.mv (.t 2),none⟩,⟨some 51,.bi .add (.c (.i .i64 1000)) (.t 50),none⟩,⟨some 52,.ca (.c (.fn (.func ref14_reader_number.n) [] [])) [.t 49,.t 51],none⟩,⟨some 53,.fa 1 (.t 7),none⟩,⟨none,.st 1 (.t 53) (.t 52),none⟩]]) (.seq (.reg [.seq [⟨some 55,.bi .eql (.t 38) (.c (.i .i64 2)),none⟩,⟨some 54,.mv (.t 55),none⟩]]) (.cond (.t 54) (.reg [.seq [⟨some 56,.mv (.t 0),none⟩,⟨some 57,.ca (.c (.fn (.func ref14_reader_level.n) [] [])) [.t 56],none⟩,⟨some 58,.bs 3 1 [.i .i64 0,.i .i64 0,.ns] [(0,3,.t 57)],none⟩,⟨some 59,.fa 2 (.t 7),none⟩,⟨none,.st 1 (.t 59) (.t 58),none⟩]]) (.seq (.reg [.seq [⟨some 61,.bi .eql (.t 38) (.c (.i .i64 3)),none⟩,⟨some 60,.mv (.t 61),none⟩]]) (.cond (.t 60) (.seq (.reg [.seq [⟨some 62,.mv (.t 0),none⟩,⟨some 63,.ca (.c (.fn (.func ref14_reader_number.n) [] [])) [.t 62,.c (.i .i64 20)],none⟩,⟨some 64,.fa 1 (.t 7),none⟩,⟨none,.st 1 (.t 64) (.t 63),none⟩]]) (.seq (.reg [.seq [⟨some 65,.mv (.t 0),none⟩,⟨some 66,.ca (.c (.fn (.func ref14_reader_number.n) [] [])) [.t 65,.c (.i .i64 6)],none⟩,⟨some 10,.mv (.t 66),none⟩]]) (.seq (.reg [.seq [⟨some 11,.mv (.c (.i .i64 0)),none⟩]]) (.block 1 (.loop ref14_reader_term.b1))))) (.seq (.reg [.seq [⟨some 87,.bi .eql (.t 38) (.c (.i .i64 4)),none⟩,⟨some 86,.mv (.t 87),none⟩]]) (.cond (.t 86) (.reg [.seq [⟨some 8,.mv (.c (.i .i64 2)),none⟩]]) (.seq (.seq (.reg [.seq [⟨some 89,.bi .eql (.t 38) (.c (.i .i64 5)),none⟩,⟨some 88,.mv (.t 89),none⟩]]) (.cond (.t 88) .skip (.reg [.seq [⟨some 90,.bi .eql (.t 38) (.c (.i .i64 6)),none⟩,⟨some 88,.mv (.t 90),none⟩]]))) (.cond (.t 88) (.seq (.reg [.seq [⟨some 8,.mv (.c (.i .i64 2)),none⟩]]) (.reg [.seq [⟨some 9,.mv (.c (.i .i64 1)),none⟩]])) (.seq (.reg [.seq [⟨some 92,.bi .eql (.t 38) (.c (.i .i64 7)),none⟩,⟨some 91,.mv (.t 92),none⟩]]) (.cond (.t 91) (.seq (.reg [.seq [⟨some 8,.mv (.c (.i .i64 3)),none⟩]]) (.reg [.seq [⟨some 9,.mv (.c (.i .i64 2)),none⟩]])) (.seq (.reg [.seq [⟨some 39,.mv (.t 0),none⟩,⟨some 40,.nc (.t 39),none⟩,⟨some 41,.fa 3 (.t 40),none⟩,⟨some 42,.ld false 1 (.t 41),none⟩,⟨some 43,.bi .eql (.t 42) (.c (.i .i64 0)),none⟩]]) (.cond (.t 43) (.reg [.seq [⟨some 44,.mv (.t 0),none⟩,⟨some 45,.nc (.t 44),none⟩,⟨some 46,.fa 3 (.t 45),none⟩,⟨none,.st 1 (.t 46) (.c (.i .i64 20)),none⟩]]) .skip)))))))))))))))) (.seq (.seq (.reg [.seq [⟨some 12,.mv (.c (.i .i64 0)),none⟩]]) (.block 3 (.loop ref14_reader_term.b2))) (.seq (.reg [.seq [⟨some 121,.ld true 4 (.t 7),none⟩,⟨none,.st 4 (.t 6) (.t 121),none⟩]]) .ret))))))))), [.c 6 true 4]⟩
def term_room_fits.c : PFun := ⟨(.seq (.reg [.seq [⟨some 2,.bx (.t 0),none⟩,⟨some 3,.bx (.t 1),none⟩,⟨some 4,.mv (.c (.b false)),none⟩]]) (.seq (.reg [.seq [⟨some 5,.ld true 4 (.t 3),none⟩,⟨some 6,.ca (.c (.fn (.func term_parts.n) [] [])) [.t 5,.c (.i .i64 601)],none⟩,⟨some 7,.bi .leq (.t 6) (.c (.i .i64 600)),none⟩,⟨some 8,.mv (.t 7),none⟩,⟨some 9,.ld true 3 (.t 2),some (8,true)⟩,⟨some 10,.ld true 4 (.t 3),some (8,true)⟩,⟨some 11,.ca (.c (.fn (.func term_room_right.n) [] [])) [.t 9,.t 10,.c (.i .i64 30)],some (8,true)⟩,⟨some 12,.pk (.t 8) (.t 11) (.c (.b false)),none⟩,⟨some 4,.mv (.t 12),none⟩]]) .ret)), [.t 4]⟩
def tcode_writer_number.c : PFun := ⟨(.seq (.reg [.seq [⟨some 7,.mv (.t 1),none⟩,⟨some 8,.ca (.c (.fn (.func octet_Put.n) [] [])) [.t 7],none⟩,⟨some 6,.mv (.t 8),none⟩,⟨some 9,.ex (.t 6) 0,none⟩,⟨some 10,.ex (.t 6) 1,none⟩,⟨some 4,.mv (.t 9),none⟩,⟨some 5,.mv (.t 10),none⟩]]) (.reg [.seq [⟨some 11,.mv (.t 0),none⟩,⟨some 12,.nc (.t 11),none⟩,⟨some 13,.fa 0 (.t 12),none⟩,⟨some 14,.mv (.t 4),none⟩,⟨some 15,.ca (.c (.fn (.func strings_Builder_WriteString.n) [] [])) [.t 13,.t 14],none⟩]])), []⟩
def lcode_Put.c : PFun := ⟨(.seq (.reg [.seq [⟨some 1,.bx (.t 0),none⟩,⟨some 2,.mv (.c (.s (bs []))),none⟩,⟨some 3,.mv (.c (.i .i64 0)),none⟩]]) (.seq (.seq (.reg [.seq [⟨some 5,.ld true 3 (.t 1),none⟩,⟨some 6,.ca (.c (.fn (.func level_Right.n) [] [])) [.t 5,.c (.i .i64 5),.c (.i .i64 10)],none⟩,⟨some 7,.un .not (.t 6),none⟩]]) (.cond (.t 7) (.seq (.reg [.seq [⟨some 2,.mv (.c (.s (bs []))),none⟩,⟨some 3,.mv (.c (.i .i64 1)),none⟩]]) .ret) .skip)) (.seq (.reg [.seq [⟨some 4,.ub (.alt 72 [.np,.ns]) (.c .un) (.c .un),none⟩]]) (.seq (.reg [.seq [⟨some 8,.ld true 3 (.t 1),none⟩,⟨some 9,.ca (.c (.fn (.func lcode_write.n) [] [])) [.t 4,.t 8],none⟩]]) (.seq (.reg [.seq [⟨some 10,.ca (.c (.fn (.func strings_Builder_String.n) [] [])) [.t 4],none⟩,⟨some 2,.mv (.t 10),none⟩,⟨some 3,.mv (.c (.i .i64 0)),none⟩]]) .ret))))), [.t 2,.t 3]⟩
def strings_Builder_WriteString.c : PFun := ⟨(.seq (.reg [.seq [⟨some 4,.mv (.c (.i .i64 0)),none⟩,⟨some 5,.mv (.c .ni),none⟩]]) (.seq (.reg [.seq [⟨some 6,.mv (.t 0),none⟩,⟨some 7,.ca (.c (.fn (.func strings_Builder_copyCheck.n) [] [])) [.t 6],none⟩]]) (.seq (.reg [.seq [⟨some 8,.mv (.t 0),none⟩,⟨some 9,.mv (.t 0),none⟩,⟨some 10,.nc (.t 9),none⟩,⟨some 11,.fa 1 (.t 10),none⟩,⟨some 12,.ld false 1 (.t 11),none⟩,⟨some 13,.mv (.t 1),none⟩,⟨some 14,.ub (.apt 5) (.t 12) (.t 13),none⟩,⟨some 15,.nc (.t 8),none⟩,⟨some 16,.fa 1 (.t 15),none⟩,⟨none,.st 1 (.t 16) (.t 14),none⟩]]) (.seq (.reg [.seq [⟨some 17,.mv (.t 1),none⟩,⟨some 18,.ln .s (.t 17),none⟩,⟨some 4,.mv (.t 18),none⟩,⟨some 5,.mv (.c .ni),none⟩]]) .ret)))), [.t 4,.t 5]⟩
def ref13_Right.c : PFun := ⟨(.seq (.reg [.seq [⟨some 4,.bx (.t 0),none⟩,⟨some 8,.mv (.c (.b false)),none⟩]]) (.seq (.reg [.seq [⟨some 9,.mv (.t 1),none⟩,⟨some 10,.bi .geq (.t 9) (.c (.i .i64 0)),none⟩,⟨some 11,.mv (.t 10),none⟩,⟨some 12,.mv (.t 1),some (11,true)⟩,⟨some 13,.bi .leq (.t 12) (.c (.i .i64 1000)),some (11,true)⟩,⟨some 14,.pk (.t 11) (.t 13) (.c (.b false)),none⟩,⟨some 15,.mv (.t 14),none⟩,⟨some 16,.mv (.t 2),some (15,true)⟩,⟨some 17,.bi .geq (.t 16) (.c (.i .i64 0)),some (15,true)⟩,⟨some 18,.pk (.t 15) (.t 17) (.c (.b false)),none⟩,⟨some 19,.mv (.t 18),none⟩,⟨some 20,.mv (.t 2),some (19,true)⟩,⟨some 21,.bi .leq (.t 20) (.c (.i .i64 5)),some (19,true)⟩,⟨some 22,.pk (.t 19) (.t 21) (.c (.b false)),none⟩,⟨some 23,.mv (.t 22),none⟩,⟨some 24,.mv (.t 3),some (23,true)⟩,⟨some 25,.bi .geq (.t 24) (.c (.i .i64 0)),some (23,true)⟩,⟨some 26,.pk (.t 23) (.t 25) (.c (.b false)),none⟩,⟨some 27,.mv (.t 26),none⟩,⟨some 28,.mv (.t 3),some (27,true)⟩,⟨some 29,.bi .leq (.t 28) (.c (.i .i64 10)),some (27,true)⟩,⟨some 30,.pk (.t 27) (.t 29) (.c (.b false)),none⟩,⟨some 31,.mv (.t 30),none⟩,⟨some 32,.ld true 4 (.t 4),some (31,true)⟩,⟨some 33,.ca (.c (.fn (.func ref13_Parts.n) [] [])) [.t 32,.c (.i .i64 601)],some (31,true)⟩,⟨some 34,.bi .leq (.t 33) (.c (.i .i64 600)),some (31,true)⟩,⟨some 35,.pk (.t 31) (.t 34) (.c (.b false)),none⟩,⟨some 36,.mv (.t 35),none⟩,⟨some 37,.ld true 4 (.t 4),some (36,true)⟩,⟨some 38,.mv (.t 1),some (36,true)⟩,⟨some 39,.mv (.t 2),some (36,true)⟩,⟨some 40,.mv (.t 3),some (36,true)⟩,⟨some 41,.ca (.c (.fn (.func ref13_right.n) [] [])) [.t 37,.t 38,.t 39,.t 40,.c (.i .i64 30)],some (36,true)⟩,⟨some 42,.pk (.t 36) (.t 41) (.c (.b false)),none⟩,⟨some 8,.mv (.t 42),none⟩]]) .ret)), [.t 8]⟩
def ref14_num.c : PFun := ⟨(.seq (.reg [.seq [⟨some 2,.mv (.c (.s (bs []))),none⟩]]) (.seq (.reg [.seq [⟨some 6,.mv (.t 0),none⟩,⟨some 7,.ca (.c (.fn (.func ref01_Put.n) [] [])) [.t 6],none⟩,⟨some 5,.mv (.t 7),none⟩,⟨some 8,.ex (.t 5) 0,none⟩,⟨some 9,.ex (.t 5) 1,none⟩,⟨some 3,.mv (.t 8),none⟩,⟨some 4,.mv (.t 9),none⟩]]) (.seq (.reg [.seq [⟨some 10,.mv (.t 3),none⟩,⟨some 2,.mv (.t 10),none⟩]]) .ret))), [.t 2]⟩
def ref03_Put.c : PFun := ⟨(.seq (.reg [.seq [⟨some 1,.bx (.t 0),none⟩,⟨some 2,.mv (.c (.s (bs []))),none⟩,⟨some 3,.mv (.c (.i .i64 0)),none⟩]]) (.seq (.seq (.reg [.seq [⟨some 4,.ld true 3 (.t 1),none⟩,⟨some 5,.ca (.c (.fn (.func ref02_Right.n) [] [])) [.t 4,.c (.i .i64 5),.c (.i .i64 10)],none⟩,⟨some 6,.un .not (.t 5),none⟩]]) (.cond (.t 6) (.seq (.reg [.seq [⟨some 2,.mv (.c (.s (bs []))),none⟩,⟨some 3,.mv (.c (.i .i64 1)),none⟩]]) .ret) .skip)) (.seq (.reg [.seq [⟨some 7,.ld true 3 (.t 1),none⟩,⟨some 8,.ca (.c (.fn (.func ref03_text.n) [] [])) [.t 7],none⟩,⟨some 2,.mv (.t 8),none⟩,⟨some 3,.mv (.c (.i .i64 0)),none⟩]]) .ret))), [.t 2,.t 3]⟩
def tcode_reader_fail.c : PFun := ⟨(.seq (.reg [.seq [⟨some 4,.mv (.t 0),none⟩,⟨some 5,.nc (.t 4),none⟩,⟨some 6,.fa 3 (.t 5),none⟩,⟨some 7,.ld false 1 (.t 6),none⟩,⟨some 8,.bi .eql (.t 7) (.c (.i .i64 0)),none⟩]]) (.cond (.t 8) (.reg [.seq [⟨some 9,.mv (.t 0),none⟩,⟨some 10,.mv (.t 1),none⟩,⟨some 11,.nc (.t 9),none⟩,⟨some 12,.fa 3 (.t 11),none⟩,⟨none,.st 1 (.t 12) (.t 10),none⟩]]) .skip)), []⟩
def tcode_reader_number.c : PFun := ⟨(.seq (.reg [.seq [⟨some 4,.mv (.c (.i .i64 0)),none⟩]]) (.seq (.seq (.reg [.seq [⟨some 8,.mv (.t 0),none⟩,⟨some 9,.nc (.t 8),none⟩,⟨some 10,.fa 3 (.t 9),none⟩,⟨some 11,.ld false 1 (.t 10),none⟩,⟨some 12,.bi .neq (.t 11) (.c (.i .i64 0)),none⟩]]) (.cond (.t 12) (.seq (.reg [.seq [⟨some 4,.mv (.c (.i .i64 0)),none⟩]]) .ret) .skip)) (.seq (.reg [.any [⟨some 14,.mv (.t 0),none⟩,⟨some 15,.nc (.t 14),none⟩,⟨some 16,.fa 0 (.t 15),none⟩,⟨some 17,.ld false 1 (.t 16),none⟩,⟨some 18,.mv (.t 0),none⟩,⟨some 19,.nc (.t 18),none⟩,⟨some 20,.fa 1 (.t 19),none⟩,⟨some 21,.ld false 1 (.t 20),none⟩] [],.seq [⟨some 22,.ca (.c (.fn (.func octet_Get.n) [] [])) [.t 17,.t 21],none⟩],.seq [⟨some 13,.mv (.t 22),none⟩],.any [⟨some 23,.ex (.t 13) 0,none⟩,⟨some 24,.ex (.t 13) 1,none⟩,⟨some 25,.ex (.t 13) 2,none⟩,⟨some 5,.mv (.t 23),none⟩,⟨some 6,.mv (.t 24),none⟩] [],.seq [⟨some 7,.mv (.t 25),none⟩]]) (.seq (.block 0 (.seq (.reg [.seq [⟨some 32,.mv (.t 7),none⟩,⟨some 33,.bi .neq (.t 32) (.c (.i .i64 0)),none⟩,⟨some 31,.mv (.t 33),none⟩]]) (.cond (.t 31) (.reg [.seq [⟨some 34,.mv (.t 0),none⟩,⟨some 35,.mv (.t 7),none⟩,⟨some 36,.ca (.c (.fn (.func tcode_reader_fail.n) [] [])) [.t 34,.t 35],none⟩]]) (.seq (.reg [.seq [⟨some 38,.mv (.t 5),none⟩,⟨some 39,.mv (.t 1),none⟩,⟨some 40,.bi .geq (.t 38) (.t 39),none⟩,⟨some 37,.mv (.t 40),none⟩]]) (.cond (.t 37) (.reg [.seq [⟨some 41,.mv (.t 0),none⟩,⟨some 42,.ca (.c (.fn (.func tcode_reader_fail.n) [] [])) [.t 41,.c (.i .i64 20)],none⟩]]) (.seq (.reg [.seq [⟨some 26,.mv (.t 0),none⟩,⟨some 27,.mv (.t 6),none⟩,⟨some 28,.nc (.t 26),none⟩,⟨some 29,.fa 1 (.t 28),none⟩,⟨none,.st 1 (.t 29) (.t 27),none⟩]]) (.seq (.reg [.seq [⟨some 30,.mv (.t 5),none⟩,⟨some 4,.mv (.t 30),none⟩]]) .ret))))))) (.seq (.reg [.seq [⟨some 4,.mv (.c (.i .i64 0)),none⟩]]) .ret))))), [.t 4]⟩
def tcode_readers.c : PFun := ⟨(.seq (.reg [.seq [⟨some 0,.mv (.c .nm),none⟩]]) (.seq (.reg [.seq [⟨some 1,.mm,none⟩,⟨none,.mu (.one .i) (.t 1) (.c (.i .i64 1)) (.c (.fn (.func tcode_reader_variable.n) [] [])),none⟩,⟨none,.mu (.one .i) (.t 1) (.c (.i .i64 2)) (.c (.fn (.func tcode_reader_sort.n) [] [])),none⟩,⟨none,.mu (.one .i) (.t 1) (.c (.i .i64 3)) (.c (.fn (.func tcode_reader_constant.n) [] [])),none⟩,⟨none,.mu (.one .i) (.t 1) (.c (.i .i64 4)) (.c (.fn (.func tcode_reader_apply.n) [] [])),none⟩,⟨none,.mu (.one .i) (.t 1) (.c (.i .i64 5)) (.c (.fn (.func tcode_reader_bind.n) [] [])),none⟩,⟨none,.mu (.one .i) (.t 1) (.c (.i .i64 6)) (.c (.fn (.func tcode_reader_bind.n) [] [])),none⟩,⟨none,.mu (.one .i) (.t 1) (.c (.i .i64 7)) (.c (.fn (.func tcode_reader_let.n) [] [])),none⟩,⟨some 2,.mv (.t 1),none⟩,⟨some 0,.mv (.t 2),none⟩]]) .ret)), [.t 0]⟩
def slices_ContainsFunc_Con.c : PFun := ⟨(.seq (.reg [.seq [⟨some 4,.mv (.c (.b false)),none⟩]]) (.seq (.reg [.seq [⟨some 5,.mv (.t 0),none⟩,⟨some 6,.mv (.t 1),none⟩,⟨some 7,.ca (.c (.fn (.func slices_IndexFunc_Con.n) [] [])) [.t 5,.t 6],none⟩,⟨some 8,.bi .geq (.t 7) (.c (.i .i64 0)),none⟩,⟨some 4,.mv (.t 8),none⟩]]) .ret)), [.t 4]⟩
def level_nodes.b1 : PCode := (.seq (.reg [.seq [⟨some 12,.bi .lss (.t 11) (.t 10),none⟩]]) (.seq (.cond (.t 12) .skip (.exit 0)) (.seq (.block 1 (.seq (.reg [.seq [⟨some 13,.ia 3 (.t 9) (.t 11),none⟩,⟨some 14,.ld true 3 (.t 13),none⟩,⟨some 7,.al [.i .i64 0,.i .i64 0,.ns],none⟩,⟨none,.st 3 (.t 7) (.t 14),none⟩]]) (.seq (.reg [.seq [⟨some 15,.mv (.t 5),none⟩,⟨some 16,.mv (.t 1),none⟩,⟨some 17,.bi .lss (.t 15) (.t 16),none⟩]]) (.cond (.t 17) (.reg [.seq [⟨some 18,.mv (.t 5),none⟩,⟨some 19,.ld true 3 (.t 7),none⟩,⟨some 20,.mv (.t 1),none⟩,⟨some 21,.mv (.t 5),none⟩,⟨some 22,.bi .sub (.t 20) (.t 21),none⟩,⟨some 23,.ca (.c (.fn (.func level_nodes.n) [] [])) [.t 19,.t 22],none⟩,⟨some 24,.bi .add (.t 18) (.t 23),none⟩,⟨some 5,.mv (.t 24),none⟩]]) .skip)))) (.reg [.seq [⟨some 25,.bi .add (.t 11) (.c (.i .i64 1)),none⟩,⟨some 11,.mv (.t 25),none⟩]]))))
def level_nodes.c : PFun := ⟨(.seq (.reg [.seq [⟨some 2,.bx (.t 0),none⟩,⟨some 4,.mv (.c (.i .i64 0)),none⟩]]) (.seq (.reg [.seq [⟨some 5,.mv (.c (.i .i64 1)),none⟩]]) (.seq (.seq (.reg [.seq [⟨some 8,.fa 2 (.t 2),none⟩,⟨some 9,.ld false 1 (.t 8),none⟩,⟨some 10,.ln .l (.t 9),none⟩,⟨some 11,.mv (.c (.i .i64 0)),none⟩]]) (.block 0 (.loop level_nodes.b1))) (.seq (.reg [.seq [⟨some 26,.mv (.t 5),none⟩,⟨some 4,.mv (.t 26),none⟩]]) .ret)))), [.t 4]⟩
def level_right.c : PFun := ⟨(.seq (.reg [.seq [⟨some 4,.bx (.t 0),none⟩,⟨some 5,.bx (.t 1),none⟩,⟨some 6,.bx (.t 2),none⟩,⟨some 7,.bx (.t 3),none⟩,⟨some 8,.mv (.c (.b false)),none⟩]]) (.seq (.reg [.any [⟨some 13,.ca (.c (.fn (.func level_kinds.n) [] [])) [],none⟩,⟨some 14,.fa 0 (.t 4),none⟩,⟨some 15,.ld false 1 (.t 14),none⟩,⟨some 16,.lk (.one .i) (.ag [.i .i64 0,.nf]) (.t 13) (.t 15) true,none⟩,⟨some 12,.mv (.t 16),none⟩,⟨some 17,.ex (.t 12) 0,none⟩,⟨some 18,.ex (.t 12) 1,none⟩,⟨some 9,.al [.i .i64 0,.nf],none⟩,⟨none,.st 2 (.t 9) (.t 17),none⟩] [(0,2),(0,7),(2,7),(3,7)],.seq [⟨some 10,.mv (.t 18),none⟩]]) (.seq (.reg [.seq [⟨some 19,.mf (.func level_right_1.n) [] [.t 5,.t 6,.t 7],none⟩,⟨some 11,.mv (.t 19),none⟩]]) (.seq (.reg [.seq [⟨some 20,.ld false 1 (.t 7),none⟩,⟨some 21,.bi .gtr (.t 20) (.c (.i .i64 0)),none⟩,⟨some 22,.mv (.t 21),none⟩,⟨some 23,.mv (.t 10),some (22,true)⟩,⟨some 24,.pk (.t 22) (.t 23) (.c (.b false)),none⟩,⟨some 25,.mv (.t 24),none⟩,⟨some 26,.fa 2 (.t 4),some (25,true)⟩,⟨some 27,.ld false 1 (.t 26),some (25,true)⟩,⟨some 28,.ln .l (.t 27),some (25,true)⟩,⟨some 29,.fa 0 (.t 9),some (25,true)⟩,⟨some 30,.ld false 1 (.t 29),some (25,true)⟩,⟨some 31,.bi .eql (.t 28) (.t 30),some (25,true)⟩,⟨some 32,.pk (.t 25) (.t 31) (.c (.b false)),none⟩,⟨some 33,.mv (.t 32),none⟩,⟨some 34,.ld true 3 (.t 4),some (33,true)⟩,⟨some 35,.ld false 1 (.t 5),some (33,true)⟩,⟨some 36,.ld false 1 (.t 6),some (33,true)⟩,⟨some 37,.ca (.c (.fn (.func level_named.n) [] [])) [.t 34,.t 35,.t 36],some (33,true)⟩,⟨some 38,.pk (.t 33) (.t 37) (.c (.b false)),none⟩,⟨some 39,.mv (.t 38),none⟩,⟨some 40,.fa 2 (.t 4),some (39,true)⟩,⟨some 41,.ld false 1 (.t 40),some (39,true)⟩,⟨some 42,.mv (.t 11),some (39,true)⟩,⟨some 43,.ca (.c (.fn (.func slices_ContainsFunc_Level.n) [] [])) [.t 41,.t 42],some (39,true)⟩,⟨some 44,.un .not (.t 43),some (39,true)⟩,⟨some 45,.pk (.t 39) (.t 44) (.c (.b false)),none⟩,⟨some 8,.mv (.t 45),none⟩]]) .ret)))), [.t 8]⟩
def slices_Collect_Clause.c : PFun := ⟨(.seq (.reg [.seq [⟨some 2,.mv (.c .ns),none⟩]]) (.seq (.reg [.seq [⟨some 3,.mv (.t 0),none⟩,⟨some 4,.ca (.c (.fn (.func slices_AppendSeq_Clause.n) [] [])) [.c .ns,.t 3],none⟩,⟨some 2,.mv (.t 4),none⟩]]) .ret)), [.t 2]⟩
def ref02_right.b1 : PCode := (.seq (.seq (.reg [.seq [⟨some 45,.mv (.t 9),none⟩,⟨some 46,.fa 2 (.t 4),none⟩,⟨some 47,.ld false 1 (.t 46),none⟩,⟨some 48,.ln .l (.t 47),none⟩,⟨some 49,.bi .lss (.t 45) (.t 48),none⟩]]) (.cond (.t 49) .skip (.exit 1))) (.seq (.block 2 (.seq (.reg [.seq [⟨some 52,.fa 2 (.t 4),none⟩,⟨some 53,.ld false 1 (.t 52),none⟩,⟨some 54,.mv (.t 9),none⟩,⟨some 55,.ia 3 (.t 53) (.t 54),none⟩,⟨some 56,.ld true 3 (.t 55),none⟩,⟨some 57,.mv (.t 1),none⟩,⟨some 58,.mv (.t 2),none⟩,⟨some 59,.mv (.t 3),none⟩,⟨some 60,.bi .sub (.t 59) (.c (.i .i64 1)),none⟩,⟨some 61,.ca (.c (.fn (.func ref02_right.n) [] [])) [.t 56,.t 57,.t 58,.t 60],none⟩,⟨some 62,.un .not (.t 61),none⟩]]) (.cond (.t 62) (.seq (.reg [.seq [⟨some 8,.mv (.c (.b false)),none⟩]]) .ret) .skip))) (.reg [.seq [⟨some 50,.mv (.t 9),none⟩,⟨some 51,.bi .add (.t 50) (.c (.i .i64 1)),none⟩,⟨some 9,.mv (.t 51),none⟩]])))
def ref02_right.c : PFun := ⟨(.seq (.reg [.seq [⟨some 4,.bx (.t 0),none⟩,⟨some 8,.mv (.c (.b false)),none⟩]]) (.seq (.seq (.reg [.seq [⟨some 10,.mv (.t 3),none⟩],.seq [⟨some 11,.bi .lss (.t 10) (.c (.i .i64 1)),none⟩],.seq [⟨some 12,.mv (.t 11),none⟩],.any [⟨some 13,.fa 2 (.t 4),some (12,false)⟩,⟨some 14,.ld false 1 (.t 13),some (12,false)⟩,⟨some 15,.ln .l (.t 14),some (12,false)⟩,⟨some 16,.fa 0 (.t 4),some (12,false)⟩,⟨some 17,.ld false 1 (.t 16),some (12,false)⟩,⟨some 18,.ca (.c (.fn (.func ref02_kids.n) [] [])) [.t 17],some (12,false)⟩] [(1,5),(2,5)],.seq [⟨some 19,.bi .neq (.t 15) (.t 18),some (12,false)⟩],.seq [⟨some 20,.pk (.t 12) (.c (.b true)) (.t 19),none⟩]]) (.cond (.t 20) (.seq (.reg [.seq [⟨some 8,.mv (.c (.b false)),none⟩]]) .ret) .skip)) (.seq (.seq (.reg [.seq [⟨some 21,.fa 0 (.t 4),none⟩,⟨some 22,.ld false 1 (.t 21),none⟩]]) (.block 0 (.seq (.reg [.seq [⟨some 24,.bi .eql (.t 22) (.c (.i .i64 5)),none⟩,⟨some 23,.mv (.t 24),none⟩]]) (.cond (.t 23) (.seq (.reg [.seq [⟨some 25,.fa 1 (.t 4),none⟩,⟨some 26,.ld false 1 (.t 25),none⟩,⟨some 27,.bi .geq (.t 26) (.c (.i .i64 0)),none⟩,⟨some 28,.mv (.t 27),none⟩,⟨some 29,.fa 1 (.t 4),some (28,true)⟩,⟨some 30,.ld false 1 (.t 29),some (28,true)⟩,⟨some 31,.mv (.t 1),some (28,true)⟩,⟨some 32,.bi .lss (.t 30) (.t 31),some (28,true)⟩,⟨some 33,.pk (.t 28) (.t 32) (.c (.b false)),none⟩,⟨some 8,.mv (.t 33),none⟩]]) .ret) (.seq (.reg [.seq [⟨some 35,.bi .eql (.t 22) (.c (.i .i64 6)),none⟩,⟨some 34,.mv (.t 35),none⟩]]) (.cond (.t 34) (.seq (.reg [.seq [⟨some 36,.fa 1 (.t 4),none⟩,⟨some 37,.ld false 1 (.t 36),none⟩,⟨some 38,.bi .geq (.t 37) (.c (.i .i64 0)),none⟩,⟨some 39,.mv (.t 38),none⟩,⟨some 40,.fa 1 (.t 4),some (39,true)⟩,⟨some 41,.ld false 1 (.t 40),some (39,true)⟩,⟨some 42,.mv (.t 2),some (39,true)⟩,⟨some 43,.bi .lss (.t 41) (.t 42),some (39,true)⟩,⟨some 44,.pk (.t 39) (.t 43) (.c (.b false)),none⟩,⟨some 8,.mv (.t 44),none⟩]]) .ret) .skip)))))) (.seq (.seq (.reg [.seq [⟨some 9,.mv (.c (.i .i64 0)),none⟩]]) (.block 1 (.loop ref02_right.b1))) (.seq (.reg [.seq [⟨some 63,.fa 1 (.t 4),none⟩,⟨some 64,.ld false 1 (.t 63),none⟩,⟨some 65,.bi .eql (.t 64) (.c (.i .i64 0)),none⟩,⟨some 8,.mv (.t 65),none⟩]]) .ret))))), [.t 8]⟩
def ref14_reader_number.c : PFun := ⟨(.seq (.reg [.seq [⟨some 4,.mv (.c (.i .i64 0)),none⟩]]) (.seq (.seq (.reg [.seq [⟨some 8,.mv (.t 0),none⟩,⟨some 9,.nc (.t 8),none⟩,⟨some 10,.fa 3 (.t 9),none⟩,⟨some 11,.ld false 1 (.t 10),none⟩,⟨some 12,.bi .neq (.t 11) (.c (.i .i64 0)),none⟩]]) (.cond (.t 12) (.seq (.reg [.seq [⟨some 4,.mv (.c (.i .i64 0)),none⟩]]) .ret) .skip)) (.seq (.reg [.any [⟨some 14,.mv (.t 0),none⟩,⟨some 15,.nc (.t 14),none⟩,⟨some 16,.fa 0 (.t 15),none⟩,⟨some 17,.ld false 1 (.t 16),none⟩,⟨some 18,.mv (.t 0),none⟩,⟨some 19,.nc (.t 18),none⟩,⟨some 20,.fa 1 (.t 19),none⟩,⟨some 21,.ld false 1 (.t 20),none⟩] [],.seq [⟨some 22,.ca (.c (.fn (.func ref01_Get.n) [] [])) [.t 17,.t 21],none⟩],.seq [⟨some 13,.mv (.t 22),none⟩],.any [⟨some 23,.ex (.t 13) 0,none⟩,⟨some 24,.ex (.t 13) 1,none⟩,⟨some 25,.ex (.t 13) 2,none⟩,⟨some 5,.mv (.t 23),none⟩,⟨some 6,.mv (.t 24),none⟩] [],.seq [⟨some 7,.mv (.t 25),none⟩]]) (.seq (.seq (.reg [.seq [⟨some 26,.mv (.t 7),none⟩,⟨some 27,.bi .eql (.t 26) (.c (.i .i64 0)),none⟩,⟨some 28,.mv (.t 27),none⟩,⟨some 29,.mv (.t 5),some (28,true)⟩,⟨some 30,.mv (.t 1),some (28,true)⟩,⟨some 31,.bi .geq (.t 29) (.t 30),some (28,true)⟩,⟨some 32,.pk (.t 28) (.t 31) (.c (.b false)),none⟩]]) (.cond (.t 32) (.reg [.seq [⟨some 7,.mv (.c (.i .i64 20)),none⟩]]) .skip)) (.seq (.reg [.seq [⟨some 33,.mv (.t 0),none⟩,⟨some 34,.mv (.t 7),none⟩,⟨some 35,.nc (.t 33),none⟩,⟨some 36,.fa 3 (.t 35),none⟩,⟨none,.st 1 (.t 36) (.t 34),none⟩]]) (.seq (.seq (.reg [.seq [⟨some 37,.mv (.t 7),none⟩,⟨some 38,.bi .neq (.t 37) (.c (.i .i64 0)),none⟩]]) (.cond (.t 38) (.seq (.reg [.seq [⟨some 4,.mv (.c (.i .i64 0)),none⟩]]) .ret) .skip)) (.seq (.reg [.seq [⟨some 39,.mv (.t 0),none⟩,⟨some 40,.mv (.t 6),none⟩,⟨some 41,.nc (.t 39),none⟩,⟨some 42,.fa 1 (.t 41),none⟩,⟨none,.st 1 (.t 42) (.t 40),none⟩]]) (.seq (.reg [.seq [⟨some 43,.mv (.t 5),none⟩,⟨some 4,.mv (.t 43),none⟩]]) .ret)))))))), [.t 4]⟩
def ref14_reader_level.c : PFun := ⟨(.seq (.reg [.seq [⟨some 2,.al [.i .i64 0,.i .i64 0,.ns],none⟩]]) (.seq (.seq (.reg [.seq [⟨some 6,.mv (.t 0),none⟩,⟨some 7,.nc (.t 6),none⟩,⟨some 8,.fa 3 (.t 7),none⟩,⟨some 9,.ld false 1 (.t 8),none⟩,⟨some 10,.bi .neq (.t 9) (.c (.i .i64 0)),none⟩]]) (.cond (.t 10) (.seq (.reg [.seq [⟨some 11,.bd [.i .i64 0,.i .i64 0,.ns] [],none⟩,⟨none,.st 3 (.t 2) (.t 11),none⟩]]) .ret) .skip)) (.seq (.reg [.any [⟨some 13,.mv (.t 0),none⟩,⟨some 14,.nc (.t 13),none⟩,⟨some 15,.fa 0 (.t 14),none⟩,⟨some 16,.ld false 1 (.t 15),none⟩,⟨some 17,.mv (.t 0),none⟩,⟨some 18,.nc (.t 17),none⟩,⟨some 19,.fa 1 (.t 18),none⟩,⟨some 20,.ld false 1 (.t 19),none⟩,⟨some 21,.ca (.c (.fn (.func ref03_Get.n) [] [])) [.t 16,.t 20],none⟩,⟨some 12,.mv (.t 21),none⟩,⟨some 22,.ex (.t 12) 0,none⟩,⟨some 23,.ex (.t 12) 1,none⟩,⟨some 24,.ex (.t 12) 2,none⟩,⟨some 3,.al [.i .i64 0,.i .i64 0,.ns],none⟩,⟨none,.st 3 (.t 3) (.t 22),none⟩,⟨some 4,.mv (.t 23),none⟩] [(3,13),(7,13),(8,13)],.seq [⟨some 5,.mv (.t 24),none⟩]]) (.seq (.reg [.seq [⟨some 25,.mv (.t 0),none⟩,⟨some 26,.mv (.t 5),none⟩,⟨some 27,.nc (.t 25),none⟩,⟨some 28,.fa 3 (.t 27),none⟩,⟨none,.st 1 (.t 28) (.t 26),none⟩]]) (.seq (.seq (.reg [.seq [⟨some 29,.mv (.t 5),none⟩,⟨some 30,.bi .eql (.t 29) (.c (.i .i64 0)),none⟩]]) (.cond (.t 30) (.reg [.seq [⟨some 31,.mv (.t 0),none⟩,⟨some 32,.mv (.t 4),none⟩,⟨some 33,.nc (.t 31),none⟩,⟨some 34,.fa 1 (.t 33),none⟩,⟨none,.st 1 (.t 34) (.t 32),none⟩]]) .skip)) (.seq (.reg [.seq [⟨some 35,.ld true 3 (.t 3),none⟩,⟨none,.st 3 (.t 2) (.t 35),none⟩]]) .ret)))))), [.c 2 true 3]⟩
def term_parts.b1 : PCode := (.seq (.reg [.seq [⟨some 12,.bi .lss (.t 11) (.t 10),none⟩]]) (.seq (.cond (.t 12) .skip (.exit 0)) (.seq (.block 1 (.seq (.reg [.seq [⟨some 13,.ia 4 (.t 9) (.t 11),none⟩,⟨some 14,.ld true 4 (.t 13),none⟩,⟨some 7,.al [.i .i64 0,.i .i64 0,.ns,.ns],none⟩,⟨none,.st 4 (.t 7) (.t 14),none⟩]]) (.seq (.reg [.seq [⟨some 15,.mv (.t 5),none⟩,⟨some 16,.mv (.t 1),none⟩,⟨some 17,.bi .lss (.t 15) (.t 16),none⟩]]) (.cond (.t 17) (.reg [.seq [⟨some 18,.mv (.t 5),none⟩,⟨some 19,.ld true 4 (.t 7),none⟩,⟨some 20,.mv (.t 1),none⟩,⟨some 21,.mv (.t 5),none⟩,⟨some 22,.bi .sub (.t 20) (.t 21),none⟩,⟨some 23,.ca (.c (.fn (.func term_parts.n) [] [])) [.t 19,.t 22],none⟩,⟨some 24,.bi .add (.t 18) (.t 23),none⟩,⟨some 5,.mv (.t 24),none⟩]]) .skip)))) (.reg [.seq [⟨some 25,.bi .add (.t 11) (.c (.i .i64 1)),none⟩,⟨some 11,.mv (.t 25),none⟩]]))))
def term_parts.c : PFun := ⟨(.seq (.reg [.seq [⟨some 2,.bx (.t 0),none⟩,⟨some 4,.mv (.c (.i .i64 0)),none⟩]]) (.seq (.reg [.seq [⟨some 5,.mv (.c (.i .i64 1)),none⟩]]) (.seq (.seq (.reg [.seq [⟨some 8,.fa 3 (.t 2),none⟩,⟨some 9,.ld false 1 (.t 8),none⟩,⟨some 10,.ln .l (.t 9),none⟩,⟨some 11,.mv (.c (.i .i64 0)),none⟩]]) (.block 0 (.loop term_parts.b1))) (.seq (.reg [.seq [⟨some 26,.mv (.t 5),none⟩,⟨some 4,.mv (.t 26),none⟩]]) .ret)))), [.t 4]⟩
def term_room_right.b1 : PCode := (.seq (.reg [.seq [⟨some 51,.bi .lss (.t 50) (.t 49),none⟩]]) (.seq (.cond (.t 51) .skip (.exit 0)) (.seq (.block 1 (.seq (.reg [.seq [⟨some 52,.mv (.t 50),none⟩,⟨some 53,.ia 4 (.t 48) (.t 50),none⟩,⟨some 54,.ld true 4 (.t 53),none⟩,⟨some 11,.al [.i .i64 0,.i .i64 0,.ns,.ns],none⟩,⟨some 10,.mv (.t 52),none⟩,⟨none,.st 4 (.t 11) (.t 54),none⟩]]) (.seq (.reg [.seq [⟨some 55,.ld true 3 (.t 3),none⟩,⟨some 12,.al [.i .i64 0,.i .i64 0,.i .i64 0],none⟩,⟨none,.st 3 (.t 12) (.t 55),none⟩]]) (.seq (.reg [.any [⟨some 56,.fa 0 (.t 12),none⟩,⟨some 57,.ld false 1 (.t 56),none⟩,⟨some 58,.ld true 4 (.t 4),none⟩,⟨some 59,.mv (.t 10),none⟩,⟨some 60,.ca (.c (.fn (.func term_below.n) [] [])) [.t 58,.t 59],none⟩] [(1,4)],.seq [⟨some 61,.bi .add (.t 57) (.t 60),none⟩],.seq [⟨some 62,.fa 0 (.t 12),none⟩],.seq [⟨none,.st 1 (.t 62) (.t 61),none⟩]]) (.seq (.reg [.seq [⟨some 63,.ld true 3 (.t 12),none⟩,⟨some 64,.ld true 4 (.t 11),none⟩,⟨some 65,.mv (.t 2),none⟩,⟨some 66,.bi .sub (.t 65) (.c (.i .i64 1)),none⟩,⟨some 67,.ca (.c (.fn (.func term_room_right.n) [] [])) [.t 63,.t 64,.t 66],none⟩,⟨some 68,.un .not (.t 67),none⟩]]) (.cond (.t 68) (.seq (.reg [.seq [⟨some 6,.mv (.c (.b false)),none⟩]]) .ret) .skip)))))) (.reg [.seq [⟨some 69,.bi .add (.t 50) (.c (.i .i64 1)),none⟩,⟨some 50,.mv (.t 69),none⟩]]))))
def term_room_right.c : PFun := ⟨(.seq (.reg [.seq [⟨some 3,.bx (.t 0),none⟩,⟨some 4,.bx (.t 1),none⟩,⟨some 6,.mv (.c (.b false)),none⟩]]) (.seq (.reg [.seq [⟨some 13,.mf (.func term_room_right_1.n) [] [.t 3],none⟩,⟨some 7,.mv (.t 13),none⟩]]) (.seq (.reg [.any [⟨some 15,.ca (.c (.fn (.func term_shapes.n) [] [])) [],none⟩,⟨some 16,.fa 0 (.t 4),none⟩,⟨some 17,.ld false 1 (.t 16),none⟩,⟨some 18,.lk (.one .i) (.ag [.i .i64 0,.i .i64 0]) (.t 15) (.t 17) true,none⟩,⟨some 14,.mv (.t 18),none⟩,⟨some 19,.ex (.t 14) 0,none⟩,⟨some 20,.ex (.t 14) 1,none⟩,⟨some 8,.al [.i .i64 0,.i .i64 0],none⟩,⟨none,.st 2 (.t 8) (.t 19),none⟩] [(0,2),(0,7),(2,7),(3,7)],.seq [⟨some 9,.mv (.t 20),none⟩]]) (.seq (.seq (.reg [.seq [⟨some 21,.mv (.t 2),none⟩,⟨some 22,.bi .eql (.t 21) (.c (.i .i64 0)),none⟩,⟨some 23,.mv (.t 22),none⟩,⟨some 24,.mv (.t 9),some (23,false)⟩,⟨some 25,.un .not (.t 24),some (23,false)⟩,⟨some 26,.pk (.t 23) (.c (.b true)) (.t 25),none⟩,⟨some 27,.mv (.t 26),none⟩,⟨some 28,.fa 3 (.t 4),some (27,false)⟩,⟨some 29,.ld false 1 (.t 28),some (27,false)⟩,⟨some 30,.ln .l (.t 29),some (27,false)⟩,⟨some 31,.fa 0 (.t 8),some (27,false)⟩,⟨some 32,.ld false 1 (.t 31),some (27,false)⟩,⟨some 33,.bi .neq (.t 30) (.t 32),some (27,false)⟩,⟨some 34,.pk (.t 27) (.c (.b true)) (.t 33),none⟩,⟨some 35,.mv (.t 34),none⟩,⟨some 36,.ld true 3 (.t 3),some (35,false)⟩,⟨some 37,.ld true 4 (.t 4),some (35,false)⟩,⟨some 38,.ca (.c (.fn (.func term_room_named.n) [] [])) [.t 36,.t 37],some (35,false)⟩,⟨some 39,.un .not (.t 38),some (35,false)⟩,⟨some 40,.pk (.t 35) (.c (.b true)) (.t 39),none⟩,⟨some 41,.mv (.t 40),none⟩,⟨some 42,.fa 2 (.t 4),some (41,false)⟩,⟨some 43,.ld false 1 (.t 42),some (41,false)⟩,⟨some 44,.mv (.t 7),some (41,false)⟩,⟨some 45,.ca (.c (.fn (.func slices_ContainsFunc_Level.n) [] [])) [.t 43,.t 44],some (41,false)⟩,⟨some 46,.pk (.t 41) (.c (.b true)) (.t 45),none⟩]]) (.cond (.t 46) (.seq (.reg [.seq [⟨some 6,.mv (.c (.b false)),none⟩]]) .ret) .skip)) (.seq (.seq (.reg [.seq [⟨some 47,.fa 3 (.t 4),none⟩,⟨some 48,.ld false 1 (.t 47),none⟩,⟨some 49,.ln .l (.t 48),none⟩,⟨some 50,.mv (.c (.i .i64 0)),none⟩]]) (.block 0 (.loop term_room_right.b1))) (.seq (.reg [.seq [⟨some 6,.mv (.c (.b true)),none⟩]]) .ret)))))), [.t 6]⟩
def octet_Put.a1 : PCode := (.seq (.reg [.seq [⟨some 5,.mv (.t 16),none⟩]]) (.reg [.seq [⟨some 6,.mv (.t 17),none⟩]]))
def octet_Put.b2 : PCode := (.block 1 (.seq (.seq (.reg [.seq [⟨some 18,.mv (.t 6),none⟩]]) (.cond (.t 18) (.reg [.seq [⟨some 19,.mv (.t 5),none⟩,⟨some 20,.bi .or (.t 19) (.c (.i .u8 128)),none⟩,⟨some 5,.mv (.t 20),none⟩]]) .skip)) (.reg [.seq [⟨some 21,.ld false 1 (.t 4),none⟩,⟨some 22,.mv (.t 5),none⟩,⟨some 23,.bs 1 1 [.i .u8 0] [(0,1,.t 22)],none⟩,⟨some 24,.ap 1 (.t 21) (.t 23),none⟩,⟨none,.st 1 (.t 4) (.t 24),none⟩]])))
def octet_Put.c : PFun := ⟨(.seq (.reg [.seq [⟨some 2,.mv (.c (.s (bs []))),none⟩,⟨some 3,.mv (.c (.i .i64 0)),none⟩]]) (.seq (.seq (.reg [.seq [⟨some 7,.mv (.t 0),none⟩,⟨some 8,.bi .lss (.t 7) (.c (.i .i64 0)),none⟩,⟨some 9,.mv (.t 8),none⟩,⟨some 10,.mv (.t 0),some (9,false)⟩,⟨some 11,.bi .gtr (.t 10) (.c (.i .i64 1099511627776)),some (9,false)⟩,⟨some 12,.pk (.t 9) (.c (.b true)) (.t 11),none⟩]]) (.cond (.t 12) (.seq (.reg [.seq [⟨some 2,.mv (.c (.s (bs []))),none⟩,⟨some 3,.mv (.c (.i .i64 1)),none⟩]]) .ret) .skip)) (.seq (.reg [.seq [⟨some 4,.al [.ns],none⟩]]) (.seq (.seq (.reg [.seq [⟨some 13,.mv (.t 0),none⟩,⟨some 14,.ci .u64 (.t 13),none⟩,⟨some 15,.ca (.c (.fn (.func octet_digits.n) [] [])) [.t 14],none⟩]]) (.block 0 (.rf (.t 15) [16,17] octet_Put.a1 octet_Put.b2))) (.seq (.reg [.seq [⟨some 25,.ld false 1 (.t 4),none⟩,⟨some 26,.cbs (.t 25),none⟩,⟨some 2,.mv (.t 26),none⟩,⟨some 3,.mv (.c (.i .i64 0)),none⟩]]) .ret))))), [.t 2,.t 3]⟩
def lcode_write.b1 : PCode := (.seq (.reg [.seq [⟨some 24,.bi .lss (.t 23) (.t 22),none⟩]]) (.seq (.cond (.t 24) .skip (.exit 0)) (.seq (.block 1 (.seq (.reg [.seq [⟨some 25,.ia 3 (.t 21) (.t 23),none⟩,⟨some 26,.ld true 3 (.t 25),none⟩,⟨some 6,.al [.i .i64 0,.i .i64 0,.ns],none⟩,⟨none,.st 3 (.t 6) (.t 26),none⟩]]) (.reg [.seq [⟨some 27,.ld false 1 (.t 2),none⟩,⟨some 28,.ld true 3 (.t 6),none⟩,⟨some 29,.ca (.c (.fn (.func lcode_write.n) [] [])) [.t 27,.t 28],none⟩]]))) (.reg [.seq [⟨some 30,.bi .add (.t 23) (.c (.i .i64 1)),none⟩,⟨some 23,.mv (.t 30),none⟩]]))))
def lcode_write.c : PFun := ⟨(.seq (.reg [.seq [⟨some 2,.bx (.t 0),none⟩,⟨some 3,.bx (.t 1),none⟩]]) (.seq (.reg [.seq [⟨some 7,.mf (.func lcode_write_1.n) [] [.t 2],none⟩,⟨some 4,.mv (.t 7),none⟩]]) (.seq (.reg [.seq [⟨some 8,.mv (.t 4),none⟩,⟨some 9,.fa 0 (.t 3),none⟩,⟨some 10,.ld false 1 (.t 9),none⟩,⟨some 11,.ca (.t 8) [.t 10],none⟩]]) (.seq (.seq (.reg [.seq [⟨some 12,.fa 0 (.t 3),none⟩,⟨some 13,.ld false 1 (.t 12),none⟩,⟨some 14,.ca (.c (.fn (.func lcode_named.n) [] [])) [.t 13],none⟩,⟨some 15,.bi .gtr (.t 14) (.c (.i .i64 0)),none⟩]]) (.cond (.t 15) (.reg [.seq [⟨some 16,.mv (.t 4),none⟩,⟨some 17,.fa 1 (.t 3),none⟩,⟨some 18,.ld false 1 (.t 17),none⟩,⟨some 19,.ca (.t 16) [.t 18],none⟩]]) .skip)) (.seq (.reg [.seq [⟨some 20,.fa 2 (.t 3),none⟩,⟨some 21,.ld false 1 (.t 20),none⟩,⟨some 22,.ln .l (.t 21),none⟩,⟨some 23,.mv (.c (.i .i64 0)),none⟩]]) (.block 0 (.loop lcode_write.b1))))))), []⟩
def strings_Builder_copyCheck.c : PFun := ⟨(.seq (.reg [.seq [⟨some 2,.mv (.t 0),none⟩,⟨some 3,.nc (.t 2),none⟩,⟨some 4,.fa 0 (.t 3),none⟩,⟨some 5,.ld false 1 (.t 4),none⟩,⟨some 6,.ub (.pe false) (.t 5) (.c .np),none⟩]]) (.cond (.t 6) (.reg [.seq [⟨some 7,.mv (.t 0),none⟩,⟨some 8,.mv (.t 0),none⟩,⟨some 9,.ub .tu (.t 8) (.c .un),none⟩,⟨some 10,.mv (.t 9),none⟩,⟨some 11,.ub (.fu [71,72,73,74]) (.t 10) (.c .un),none⟩,⟨some 12,.nc (.t 7),none⟩,⟨some 13,.fa 0 (.t 12),none⟩,⟨none,.st 1 (.t 13) (.t 11),none⟩]]) (.seq (.reg [.seq [⟨some 14,.mv (.t 0),none⟩,⟨some 15,.nc (.t 14),none⟩,⟨some 16,.fa 0 (.t 15),none⟩,⟨some 17,.ld false 1 (.t 16),none⟩,⟨some 18,.mv (.t 0),none⟩,⟨some 19,.ub (.pe true) (.t 17) (.t 18),none⟩]]) (.cond (.t 19) (.cond (.c .un) .skip .skip) .skip)))), []⟩
def ref13_right.b1 : PCode := (.seq (.seq (.reg [.seq [⟨some 31,.mv (.t 11),none⟩,⟨some 32,.fa 3 (.t 5),none⟩,⟨some 33,.ld false 1 (.t 32),none⟩,⟨some 34,.ln .l (.t 33),none⟩,⟨some 35,.bi .lss (.t 31) (.t 34),none⟩]]) (.cond (.t 35) .skip (.exit 0))) (.seq (.block 1 (.seq (.reg [.any [⟨some 38,.fa 3 (.t 5),none⟩,⟨some 39,.ld false 1 (.t 38),none⟩,⟨some 40,.mv (.t 11),none⟩,⟨some 41,.ia 4 (.t 39) (.t 40),none⟩,⟨some 42,.ld true 4 (.t 41),none⟩,⟨some 43,.mv (.t 1),none⟩,⟨some 44,.fa 0 (.t 5),none⟩,⟨some 45,.ld false 1 (.t 44),none⟩,⟨some 46,.mv (.t 11),none⟩,⟨some 47,.ca (.c (.fn (.func ref13_binds.n) [] [])) [.t 45,.t 46],none⟩,⟨some 48,.bi .add (.t 43) (.t 47),none⟩,⟨some 49,.mv (.t 2),none⟩,⟨some 50,.mv (.t 3),none⟩,⟨some 51,.mv (.t 4),none⟩,⟨some 52,.bi .sub (.t 51) (.c (.i .i64 1)),none⟩] [(1,9),(4,9)],.seq [⟨some 53,.ca (.c (.fn (.func ref13_right.n) [] [])) [.t 42,.t 48,.t 49,.t 50,.t 52],none⟩],.seq [⟨some 54,.un .not (.t 53),none⟩]]) (.cond (.t 54) (.seq (.reg [.seq [⟨some 10,.mv (.c (.b false)),none⟩]]) .ret) .skip))) (.reg [.seq [⟨some 36,.mv (.t 11),none⟩,⟨some 37,.bi .add (.t 36) (.c (.i .i64 1)),none⟩,⟨some 11,.mv (.t 37),none⟩]])))
def ref13_right.c : PFun := ⟨(.seq (.reg [.seq [⟨some 5,.bx (.t 0),none⟩,⟨some 10,.mv (.c (.b false)),none⟩]]) (.seq (.seq (.reg [.seq [⟨some 12,.mv (.t 4),none⟩],.seq [⟨some 13,.bi .lss (.t 12) (.c (.i .i64 1)),none⟩],.seq [⟨some 14,.mv (.t 13),none⟩],.any [⟨some 15,.fa 3 (.t 5),some (14,false)⟩,⟨some 16,.ld false 1 (.t 15),some (14,false)⟩,⟨some 17,.ln .l (.t 16),some (14,false)⟩,⟨some 18,.fa 0 (.t 5),some (14,false)⟩,⟨some 19,.ld false 1 (.t 18),some (14,false)⟩,⟨some 20,.ca (.c (.fn (.func ref13_kids.n) [] [])) [.t 19],some (14,false)⟩] [(1,5),(2,5)],.seq [⟨some 21,.bi .neq (.t 17) (.t 20),some (14,false)⟩],.seq [⟨some 22,.pk (.t 14) (.c (.b true)) (.t 21),none⟩],.seq [⟨some 23,.mv (.t 22),none⟩],.any [⟨some 24,.ld true 4 (.t 5),some (23,false)⟩,⟨some 25,.mv (.t 1),some (23,false)⟩,⟨some 26,.mv (.t 2),some (23,false)⟩,⟨some 27,.mv (.t 3),some (23,false)⟩] [],.seq [⟨some 28,.ca (.c (.fn (.func ref13_named.n) [] [])) [.t 24,.t 25,.t 26,.t 27],some (23,false)⟩],.seq [⟨some 29,.un .not (.t 28),some (23,false)⟩],.seq [⟨some 30,.pk (.t 23) (.c (.b true)) (.t 29),none⟩]]) (.cond (.t 30) (.seq (.reg [.seq [⟨some 10,.mv (.c (.b false)),none⟩]]) .ret) .skip)) (.seq (.seq (.reg [.seq [⟨some 11,.mv (.c (.i .i64 0)),none⟩]]) (.block 0 (.loop ref13_right.b1))) (.seq (.reg [.seq [⟨some 10,.mv (.c (.b true)),none⟩]]) .ret)))), [.t 10]⟩
def ref01_Put.b1 : PCode := (.seq (.seq (.reg [.seq [⟨some 11,.mv (.t 0),none⟩,⟨some 12,.bi .geq (.t 11) (.c (.i .i64 128)),none⟩]]) (.cond (.t 12) .skip (.exit 0))) (.block 1 (.seq (.reg [.seq [⟨some 13,.mv (.t 4),none⟩,⟨some 14,.mv (.t 0),none⟩,⟨some 15,.bi .rem (.t 14) (.c (.i .i64 128)),none⟩,⟨some 16,.bi .add (.c (.i .i64 128)) (.t 15),none⟩,⟨some 17,.ci .u8 (.t 16),none⟩,⟨some 18,.bs 1 1 [.i .u8 0] [(0,1,.t 17)],none⟩,⟨some 19,.cbs (.t 18),none⟩,⟨some 20,.bi .add (.t 13) (.t 19),none⟩,⟨some 4,.mv (.t 20),none⟩]]) (.reg [.seq [⟨some 21,.mv (.t 0),none⟩,⟨some 22,.bi .quo (.t 21) (.c (.i .i64 128)),none⟩,⟨some 0,.mv (.t 22),none⟩]]))))
def ref01_Put.c : PFun := ⟨(.seq (.reg [.seq [⟨some 2,.mv (.c (.s (bs []))),none⟩,⟨some 3,.mv (.c (.i .i64 0)),none⟩]]) (.seq (.seq (.reg [.seq [⟨some 5,.mv (.t 0),none⟩,⟨some 6,.bi .lss (.t 5) (.c (.i .i64 0)),none⟩,⟨some 7,.mv (.t 6),none⟩,⟨some 8,.mv (.t 0),some (7,false)⟩,⟨some 9,.bi .gtr (.t 8) (.c (.i .i64 1099511627776)),some (7,false)⟩,⟨some 10,.pk (.t 7) (.c (.b true)) (.t 9),none⟩]]) (.cond (.t 10) (.seq (.reg [.seq [⟨some 2,.mv (.c (.s (bs []))),none⟩,⟨some 3,.mv (.c (.i .i64 1)),none⟩]]) .ret) .skip)) (.seq (.reg [.seq [⟨some 4,.mv (.c (.s (bs []))),none⟩]]) (.seq (.block 0 (.loop ref01_Put.b1)) (.seq (.reg [.seq [⟨some 23,.mv (.t 4),none⟩,⟨some 24,.mv (.t 0),none⟩,⟨some 25,.ci .u8 (.t 24),none⟩,⟨some 26,.bs 1 1 [.i .u8 0] [(0,1,.t 25)],none⟩,⟨some 27,.cbs (.t 26),none⟩,⟨some 28,.bi .add (.t 23) (.t 27),none⟩,⟨some 2,.mv (.t 28),none⟩,⟨some 3,.mv (.c (.i .i64 0)),none⟩]]) .ret))))), [.t 2,.t 3]⟩
def ref03_text.b1 : PCode := (.seq (.seq (.reg [.seq [⟨some 31,.mv (.t 7),none⟩,⟨some 32,.fa 2 (.t 1),none⟩,⟨some 33,.ld false 1 (.t 32),none⟩,⟨some 34,.ln .l (.t 33),none⟩,⟨some 35,.bi .lss (.t 31) (.t 34),none⟩]]) (.cond (.t 35) .skip (.exit 0))) (.seq (.block 1 (.reg [.seq [⟨some 38,.mv (.t 3),none⟩,⟨some 39,.fa 2 (.t 1),none⟩,⟨some 40,.ld false 1 (.t 39),none⟩,⟨some 41,.mv (.t 7),none⟩,⟨some 42,.ia 3 (.t 40) (.t 41),none⟩,⟨some 43,.ld true 3 (.t 42),none⟩,⟨some 44,.ca (.c (.fn (.func ref03_text.n) [] [])) [.t 43],none⟩,⟨some 45,.bi .add (.t 38) (.t 44),none⟩,⟨some 3,.mv (.t 45),none⟩]])) (.reg [.seq [⟨some 36,.mv (.t 7),none⟩,⟨some 37,.bi .add (.t 36) (.c (.i .i64 1)),none⟩,⟨some 7,.mv (.t 37),none⟩]])))
def ref03_text.c : PFun := ⟨(.seq (.reg [.seq [⟨some 1,.bx (.t 0),none⟩,⟨some 2,.mv (.c (.s (bs []))),none⟩]]) (.seq (.reg [.seq [⟨some 9,.fa 0 (.t 1),none⟩,⟨some 10,.ld false 1 (.t 9),none⟩,⟨some 11,.ca (.c (.fn (.func ref01_Put.n) [] [])) [.t 10],none⟩,⟨some 8,.mv (.t 11),none⟩,⟨some 12,.ex (.t 8) 0,none⟩,⟨some 13,.ex (.t 8) 1,none⟩,⟨some 3,.mv (.t 12),none⟩,⟨some 4,.mv (.t 13),none⟩]]) (.seq (.seq (.reg [.seq [⟨some 14,.fa 0 (.t 1),none⟩,⟨some 15,.ld false 1 (.t 14),none⟩,⟨some 16,.bi .eql (.t 15) (.c (.i .i64 5)),none⟩,⟨some 17,.mv (.t 16),none⟩,⟨some 18,.fa 0 (.t 1),some (17,false)⟩,⟨some 19,.ld false 1 (.t 18),some (17,false)⟩,⟨some 20,.bi .eql (.t 19) (.c (.i .i64 6)),some (17,false)⟩,⟨some 21,.pk (.t 17) (.c (.b true)) (.t 20),none⟩]]) (.cond (.t 21) (.seq (.reg [.seq [⟨some 23,.fa 1 (.t 1),none⟩,⟨some 24,.ld false 1 (.t 23),none⟩,⟨some 25,.ca (.c (.fn (.func ref01_Put.n) [] [])) [.t 24],none⟩,⟨some 22,.mv (.t 25),none⟩,⟨some 26,.ex (.t 22) 0,none⟩,⟨some 27,.ex (.t 22) 1,none⟩,⟨some 5,.mv (.t 26),none⟩,⟨some 6,.mv (.t 27),none⟩]]) (.reg [.seq [⟨some 28,.mv (.t 3),none⟩,⟨some 29,.mv (.t 5),none⟩,⟨some 30,.bi .add (.t 28) (.t 29),none⟩,⟨some 3,.mv (.t 30),none⟩]])) .skip)) (.seq (.seq (.reg [.seq [⟨some 7,.mv (.c (.i .i64 0)),none⟩]]) (.block 0 (.loop ref03_text.b1))) (.seq (.reg [.seq [⟨some 46,.mv (.t 3),none⟩,⟨some 2,.mv (.t 46),none⟩]]) .ret))))), [.t 2]⟩
def octet_Get.b1 : PCode := (.seq (.reg [.seq [⟨some 24,.bi .lss (.t 23) (.t 22),none⟩]]) (.seq (.cond (.t 24) .skip (.exit 0)) (.seq (.block 1 (.seq (.reg [.seq [⟨some 25,.mv (.t 23),none⟩,⟨some 26,.ia 1 (.t 21) (.t 23),none⟩,⟨some 27,.ld false 1 (.t 26),none⟩,⟨some 8,.mv (.t 25),none⟩,⟨some 9,.mv (.t 27),none⟩]]) (.seq (.seq (.reg [.seq [⟨some 28,.mv (.t 8),none⟩,⟨some 29,.bi .eql (.t 28) (.c (.i .i64 6)),none⟩,⟨some 30,.mv (.t 29),none⟩,⟨some 31,.mv (.t 8),some (30,false)⟩,⟨some 32,.bi .gtr (.t 31) (.c (.i .i64 0)),some (30,false)⟩,⟨some 33,.mv (.t 32),some (30,false)⟩,⟨some 34,.mv (.t 9),some (33,true)⟩,⟨some 35,.bi .eql (.t 34) (.c (.i .u8 0)),some (33,true)⟩,⟨some 36,.pk (.t 33) (.t 35) (.c (.b false)),some (30,false)⟩,⟨some 37,.pk (.t 30) (.c (.b true)) (.t 36),none⟩]]) (.cond (.t 37) (.seq (.reg [.seq [⟨some 4,.mv (.c (.i .i64 0)),none⟩,⟨some 5,.mv (.c (.i .i64 0)),none⟩,⟨some 6,.mv (.c (.i .i64 20)),none⟩]]) .ret) .skip)) (.seq (.reg [.seq [⟨some 38,.mv (.t 7),none⟩,⟨some 39,.mv (.t 9),none⟩,⟨some 40,.bi .and (.t 39) (.c (.i .u8 127)),none⟩,⟨some 41,.ci .u64 (.t 40),none⟩,⟨some 42,.mv (.t 8),none⟩,⟨some 43,.bi .mul (.c (.i .i64 7)) (.t 42),none⟩,⟨some 44,.bi .shl (.t 41) (.t 43),none⟩,⟨some 45,.bi .or (.t 38) (.t 44),none⟩,⟨some 7,.mv (.t 45),none⟩]]) (.block 2 (.seq (.reg [.seq [⟨some 53,.mv (.t 9),none⟩,⟨some 54,.bi .geq (.t 53) (.c (.i .u8 128)),none⟩,⟨some 52,.mv (.t 54),none⟩]]) (.cond (.t 52) .skip (.seq (.reg [.seq [⟨some 56,.mv (.t 7),none⟩,⟨some 57,.bi .gtr (.t 56) (.c (.i .u64 1099511627776)),none⟩,⟨some 55,.mv (.t 57),none⟩]]) (.cond (.t 55) (.seq (.reg [.seq [⟨some 4,.mv (.c (.i .i64 0)),none⟩,⟨some 5,.mv (.c (.i .i64 0)),none⟩,⟨some 6,.mv (.c (.i .i64 20)),none⟩]]) .ret) (.seq (.reg [.seq [⟨some 46,.mv (.t 7),none⟩,⟨some 47,.ci .i64 (.t 46),none⟩,⟨some 48,.mv (.t 1),none⟩,⟨some 49,.mv (.t 8),none⟩,⟨some 50,.bi .add (.t 48) (.t 49),none⟩,⟨some 51,.bi .add (.t 50) (.c (.i .i64 1)),none⟩,⟨some 4,.mv (.t 47),none⟩,⟨some 5,.mv (.t 51),none⟩,⟨some 6,.mv (.c (.i .i64 0)),none⟩]]) .ret)))))))))) (.reg [.seq [⟨some 58,.bi .add (.t 23) (.c (.i .i64 1)),none⟩,⟨some 23,.mv (.t 58),none⟩]]))))
def octet_Get.c : PFun := ⟨(.seq (.reg [.seq [⟨some 4,.mv (.c (.i .i64 0)),none⟩,⟨some 5,.mv (.c (.i .i64 0)),none⟩,⟨some 6,.mv (.c (.i .i64 0)),none⟩]]) (.seq (.seq (.reg [.seq [⟨some 10,.mv (.t 1),none⟩,⟨some 11,.bi .lss (.t 10) (.c (.i .i64 0)),none⟩,⟨some 12,.mv (.t 11),none⟩,⟨some 13,.mv (.t 1),some (12,false)⟩,⟨some 14,.mv (.t 0),some (12,false)⟩,⟨some 15,.ln .s (.t 14),some (12,false)⟩,⟨some 16,.bi .gtr (.t 13) (.t 15),some (12,false)⟩,⟨some 17,.pk (.t 12) (.c (.b true)) (.t 16),none⟩]]) (.cond (.t 17) (.seq (.reg [.seq [⟨some 4,.mv (.c (.i .i64 0)),none⟩,⟨some 5,.mv (.c (.i .i64 0)),none⟩,⟨some 6,.mv (.c (.i .i64 1)),none⟩]]) .ret) .skip)) (.seq (.reg [.seq [⟨some 7,.mv (.c (.i .u64 0)),none⟩]]) (.seq (.seq (.reg [.seq [⟨some 18,.mv (.t 0),none⟩,⟨some 19,.mv (.t 1),none⟩,⟨some 20,.ss (.t 18) (some (.t 19)) none,none⟩,⟨some 21,.csb (.t 20),none⟩,⟨some 22,.ln .l (.t 21),none⟩,⟨some 23,.mv (.c (.i .i64 0)),none⟩]]) (.block 0 (.loop octet_Get.b1))) (.seq (.reg [.seq [⟨some 4,.mv (.c (.i .i64 0)),none⟩,⟨some 5,.mv (.c (.i .i64 0)),none⟩,⟨some 6,.mv (.c (.i .i64 21)),none⟩]]) .ret))))), [.t 4,.t 5,.t 6]⟩
def tcode_reader_variable.c : PFun := ⟨(.seq (.reg [.seq [⟨some 3,.bx (.t 1),none⟩,⟨some 4,.al [.i .i64 0,.i .i64 0,.ns,.ns],none⟩]]) (.seq (.reg [.seq [⟨some 5,.mv (.t 0),none⟩,⟨some 6,.fa 1 (.t 3),none⟩,⟨some 7,.ld false 1 (.t 6),none⟩,⟨some 8,.bi .add (.c (.i .i64 1000)) (.t 7),none⟩,⟨some 9,.ca (.c (.fn (.func tcode_reader_number.n) [] [])) [.t 5,.t 8],none⟩,⟨some 10,.fa 1 (.t 4),none⟩,⟨none,.st 1 (.t 10) (.t 9),none⟩]]) (.seq (.reg [.seq [⟨some 11,.ld true 4 (.t 4),none⟩,⟨none,.st 4 (.t 4) (.t 11),none⟩]]) .ret))), [.c 4 true 4]⟩
def tcode_reader_sort.c : PFun := ⟨(.seq (.reg [.seq [⟨some 3,.bx (.t 1),none⟩,⟨some 4,.al [.i .i64 0,.i .i64 0,.ns,.ns],none⟩]]) (.seq (.reg [.seq [⟨some 5,.mv (.t 0),none⟩,⟨some 6,.ca (.c (.fn (.func tcode_reader_levels.n) [] [])) [.t 5,.c (.i .i64 1)],none⟩,⟨some 7,.fa 2 (.t 4),none⟩,⟨none,.st 1 (.t 7) (.t 6),none⟩]]) (.seq (.reg [.seq [⟨some 8,.ld true 4 (.t 4),none⟩,⟨none,.st 4 (.t 4) (.t 8),none⟩]]) .ret))), [.c 4 true 4]⟩
def tcode_reader_constant.c : PFun := ⟨(.seq (.reg [.seq [⟨some 3,.bx (.t 1),none⟩,⟨some 4,.al [.i .i64 0,.i .i64 0,.ns,.ns],none⟩]]) (.seq (.reg [.seq [⟨some 5,.mv (.t 0),none⟩,⟨some 6,.ca (.c (.fn (.func tcode_reader_number.n) [] [])) [.t 5,.c (.i .i64 20)],none⟩,⟨some 7,.fa 1 (.t 4),none⟩,⟨none,.st 1 (.t 7) (.t 6),none⟩]]) (.seq (.reg [.seq [⟨some 8,.mv (.t 0),none⟩,⟨some 9,.mv (.t 0),none⟩,⟨some 10,.ca (.c (.fn (.func tcode_reader_number.n) [] [])) [.t 9,.c (.i .i64 6)],none⟩,⟨some 11,.ca (.c (.fn (.func tcode_reader_levels.n) [] [])) [.t 8,.t 10],none⟩,⟨some 12,.fa 2 (.t 4),none⟩,⟨none,.st 1 (.t 12) (.t 11),none⟩]]) (.seq (.reg [.seq [⟨some 13,.ld true 4 (.t 4),none⟩,⟨none,.st 4 (.t 4) (.t 13),none⟩]]) .ret)))), [.c 4 true 4]⟩
def tcode_reader_apply.c : PFun := ⟨(.seq (.reg [.seq [⟨some 3,.bx (.t 1),none⟩,⟨some 4,.al [.i .i64 0,.i .i64 0,.ns,.ns],none⟩]]) (.seq (.reg [.seq [⟨some 5,.mv (.t 0),none⟩,⟨some 6,.ld true 2 (.t 3),none⟩,⟨some 7,.ca (.c (.fn (.func tcode_reader_kids.n) [] [])) [.t 5,.t 6,.c (.i .i64 2),.c (.i .i64 (-1))],none⟩,⟨none,.st 4 (.t 4) (.t 7),none⟩]]) .ret)), [.c 4 true 4]⟩
def tcode_reader_bind.c : PFun := ⟨(.seq (.reg [.seq [⟨some 3,.bx (.t 1),none⟩,⟨some 4,.al [.i .i64 0,.i .i64 0,.ns,.ns],none⟩]]) (.seq (.reg [.seq [⟨some 5,.mv (.t 0),none⟩,⟨some 6,.ld true 2 (.t 3),none⟩,⟨some 7,.ca (.c (.fn (.func tcode_reader_kids.n) [] [])) [.t 5,.t 6,.c (.i .i64 2),.c (.i .i64 1)],none⟩,⟨none,.st 4 (.t 4) (.t 7),none⟩]]) .ret)), [.c 4 true 4]⟩
def tcode_reader_let.c : PFun := ⟨(.seq (.reg [.seq [⟨some 3,.bx (.t 1),none⟩,⟨some 4,.al [.i .i64 0,.i .i64 0,.ns,.ns],none⟩]]) (.seq (.reg [.seq [⟨some 5,.mv (.t 0),none⟩,⟨some 6,.ld true 2 (.t 3),none⟩,⟨some 7,.ca (.c (.fn (.func tcode_reader_kids.n) [] [])) [.t 5,.t 6,.c (.i .i64 3),.c (.i .i64 2)],none⟩,⟨none,.st 4 (.t 4) (.t 7),none⟩]]) .ret)), [.c 4 true 4]⟩
def slices_IndexFunc_Con.b1 : PCode := (.seq (.reg [.seq [⟨some 9,.bi .lss (.t 8) (.t 7),none⟩]]) (.seq (.cond (.t 9) .skip (.exit 0)) (.seq (.block 1 (.seq (.reg [.seq [⟨some 10,.mv (.t 8),none⟩,⟨some 5,.mv (.t 10),none⟩]]) (.seq (.reg [.seq [⟨some 11,.mv (.t 1),none⟩,⟨some 12,.mv (.t 0),none⟩,⟨some 13,.mv (.t 5),none⟩,⟨some 14,.ia 6 (.t 12) (.t 13),none⟩,⟨some 15,.ld true 6 (.t 14),none⟩,⟨some 16,.ca (.t 11) [.t 15],none⟩]]) (.cond (.t 16) (.seq (.reg [.seq [⟨some 17,.mv (.t 5),none⟩,⟨some 4,.mv (.t 17),none⟩]]) .ret) .skip)))) (.reg [.seq [⟨some 18,.bi .add (.t 8) (.c (.i .i64 1)),none⟩,⟨some 8,.mv (.t 18),none⟩]]))))
def slices_IndexFunc_Con.c : PFun := ⟨(.seq (.reg [.seq [⟨some 4,.mv (.c (.i .i64 0)),none⟩]]) (.seq (.seq (.reg [.seq [⟨some 6,.mv (.t 0),none⟩,⟨some 7,.ln .l (.t 6),none⟩,⟨some 8,.mv (.c (.i .i64 0)),none⟩]]) (.block 0 (.loop slices_IndexFunc_Con.b1))) (.seq (.reg [.seq [⟨some 4,.mv (.c (.i .i64 (-1))),none⟩]]) .ret))), [.t 4]⟩
def level_kinds.c : PFun := ⟨(.seq (.reg [.seq [⟨some 0,.mv (.c .nm),none⟩]]) (.seq (.reg [.seq [⟨some 1,.mm,none⟩,⟨some 2,.bd [.i .i64 0,.nf] [(0,1,.c (.i .i64 0)),(1,1,.c (.fn (.func level_kinds_1.n) [] []))],none⟩,⟨none,.mu (.one .i) (.t 1) (.c (.i .i64 1)) (.t 2),none⟩,⟨some 3,.bd [.i .i64 0,.nf] [(0,1,.c (.i .i64 1)),(1,1,.c (.fn (.func level_kinds_2.n) [] []))],none⟩,⟨none,.mu (.one .i) (.t 1) (.c (.i .i64 2)) (.t 3),none⟩,⟨some 4,.bd [.i .i64 0,.nf] [(0,1,.c (.i .i64 2)),(1,1,.c (.fn (.func level_kinds_3.n) [] []))],none⟩,⟨none,.mu (.one .i) (.t 1) (.c (.i .i64 3)) (.t 4),none⟩,⟨some 5,.bd [.i .i64 0,.nf] [(0,1,.c (.i .i64 2)),(1,1,.c (.fn (.func level_kinds_4.n) [] []))],none⟩,⟨none,.mu (.one .i) (.t 1) (.c (.i .i64 4)) (.t 5),none⟩,⟨some 6,.bd [.i .i64 0,.nf] [(0,1,.c (.i .i64 0)),(1,1,.c (.fn (.func level_kinds_5.n) [] []))],none⟩,⟨none,.mu (.one .i) (.t 1) (.c (.i .i64 5)) (.t 6),none⟩,⟨some 7,.bd [.i .i64 0,.nf] [(0,1,.c (.i .i64 0)),(1,1,.c (.fn (.func level_kinds_6.n) [] []))],none⟩,⟨none,.mu (.one .i) (.t 1) (.c (.i .i64 6)) (.t 7),none⟩,⟨some 8,.mv (.t 1),none⟩,⟨some 0,.mv (.t 8),none⟩]]) .ret)), [.t 0]⟩
def level_right_1.c : PFun := ⟨(.seq (.reg [.seq [⟨some 4,.bx (.t 0),none⟩,⟨some 5,.mv (.c (.b false)),none⟩]]) (.seq (.reg [.seq [⟨some 6,.ld true 3 (.t 4),none⟩,⟨some 7,.ld false 1 (.t 1),none⟩,⟨some 8,.ld false 1 (.t 2),none⟩,⟨some 9,.ld false 1 (.t 3),none⟩,⟨some 10,.bi .sub (.t 9) (.c (.i .i64 1)),none⟩,⟨some 11,.ca (.c (.fn (.func level_right.n) [] [])) [.t 6,.t 7,.t 8,.t 10],none⟩,⟨some 12,.un .not (.t 11),none⟩,⟨some 5,.mv (.t 12),none⟩]]) .ret)), [.t 5]⟩
def level_named.c : PFun := ⟨(.seq (.reg [.seq [⟨some 3,.bx (.t 0),none⟩,⟨some 6,.mv (.c (.b false)),none⟩]]) (.seq (.seq (.reg [.seq [⟨some 7,.fa 0 (.t 3),none⟩,⟨some 8,.ld false 1 (.t 7),none⟩]]) (.block 0 (.seq (.reg [.seq [⟨some 10,.bi .eql (.t 8) (.c (.i .i64 5)),none⟩,⟨some 9,.mv (.t 10),none⟩]]) (.cond (.t 9) (.seq (.reg [.seq [⟨some 11,.fa 1 (.t 3),none⟩,⟨some 12,.ld false 1 (.t 11),none⟩,⟨some 13,.bi .geq (.t 12) (.c (.i .i64 0)),none⟩,⟨some 14,.mv (.t 13),none⟩,⟨some 15,.fa 1 (.t 3),some (14,true)⟩,⟨some 16,.ld false 1 (.t 15),some (14,true)⟩,⟨some 17,.mv (.t 1),some (14,true)⟩,⟨some 18,.bi .lss (.t 16) (.t 17),some (14,true)⟩,⟨some 19,.pk (.t 14) (.t 18) (.c (.b false)),none⟩,⟨some 6,.mv (.t 19),none⟩]]) .ret) (.seq (.reg [.seq [⟨some 21,.bi .eql (.t 8) (.c (.i .i64 6)),none⟩,⟨some 20,.mv (.t 21),none⟩]]) (.cond (.t 20) (.seq (.reg [.seq [⟨some 22,.fa 1 (.t 3),none⟩,⟨some 23,.ld false 1 (.t 22),none⟩,⟨some 24,.bi .geq (.t 23) (.c (.i .i64 0)),none⟩,⟨some 25,.mv (.t 24),none⟩,⟨some 26,.fa 1 (.t 3),some (25,true)⟩,⟨some 27,.ld false 1 (.t 26),some (25,true)⟩,⟨some 28,.mv (.t 2),some (25,true)⟩,⟨some 29,.bi .lss (.t 27) (.t 28),some (25,true)⟩,⟨some 30,.pk (.t 25) (.t 29) (.c (.b false)),none⟩,⟨some 6,.mv (.t 30),none⟩]]) .ret) .skip)))))) (.seq (.reg [.seq [⟨some 31,.fa 1 (.t 3),none⟩,⟨some 32,.ld false 1 (.t 31),none⟩,⟨some 33,.bi .eql (.t 32) (.c (.i .i64 0)),none⟩,⟨some 6,.mv (.t 33),none⟩]]) .ret))), [.t 6]⟩
def slices_ContainsFunc_Level.c : PFun := ⟨(.seq (.reg [.seq [⟨some 4,.mv (.c (.b false)),none⟩]]) (.seq (.reg [.seq [⟨some 5,.mv (.t 0),none⟩,⟨some 6,.mv (.t 1),none⟩,⟨some 7,.ca (.c (.fn (.func slices_IndexFunc_Level.n) [] [])) [.t 5,.t 6],none⟩,⟨some 8,.bi .geq (.t 7) (.c (.i .i64 0)),none⟩,⟨some 4,.mv (.t 8),none⟩]]) .ret)), [.t 4]⟩
def slices_AppendSeq_Clause.a1 : PCode := (.reg [.seq [⟨some 5,.al [.ns,.i .i64 0,.i .i64 0],none⟩,⟨none,.st 3 (.t 5) (.t 7),none⟩]])
def slices_AppendSeq_Clause.b2 : PCode := (.block 1 (.reg [.seq [⟨some 8,.ld false 1 (.t 2),none⟩,⟨some 9,.ld true 3 (.t 5),none⟩,⟨some 10,.bs 3 1 [.ns,.i .i64 0,.i .i64 0] [(0,3,.t 9)],none⟩,⟨some 11,.ap 3 (.t 8) (.t 10),none⟩,⟨none,.st 1 (.t 2) (.t 11),none⟩]]))
def slices_AppendSeq_Clause.c : PFun := ⟨(.seq (.reg [.seq [⟨some 2,.bx (.t 0),none⟩,⟨some 4,.mv (.c .ns),none⟩]]) (.seq (.seq (.reg [.seq [⟨some 6,.mv (.t 1),none⟩]]) (.block 0 (.rf (.t 6) [7] slices_AppendSeq_Clause.a1 slices_AppendSeq_Clause.b2))) (.seq (.reg [.seq [⟨some 12,.ld false 1 (.t 2),none⟩,⟨some 4,.mv (.t 12),none⟩]]) .ret))), [.t 4]⟩
def ref02_kids.c : PFun := ⟨(.seq (.reg [.seq [⟨some 2,.mv (.c (.i .i64 0)),none⟩]]) (.seq (.seq (.reg [.seq [⟨some 3,.mv (.t 0),none⟩]]) (.block 0 (.seq (.seq (.reg [.seq [⟨some 5,.bi .eql (.t 3) (.c (.i .i64 1)),none⟩,⟨some 4,.mv (.t 5),none⟩]]) (.cond (.t 4) .skip (.seq (.reg [.seq [⟨some 6,.bi .eql (.t 3) (.c (.i .i64 5)),none⟩,⟨some 4,.mv (.t 6),none⟩]]) (.cond (.t 4) .skip (.reg [.seq [⟨some 7,.bi .eql (.t 3) (.c (.i .i64 6)),none⟩,⟨some 4,.mv (.t 7),none⟩]]))))) (.cond (.t 4) (.seq (.reg [.seq [⟨some 2,.mv (.c (.i .i64 0)),none⟩]]) .ret) (.seq (.reg [.seq [⟨some 9,.bi .eql (.t 3) (.c (.i .i64 2)),none⟩,⟨some 8,.mv (.t 9),none⟩]]) (.cond (.t 8) (.seq (.reg [.seq [⟨some 2,.mv (.c (.i .i64 1)),none⟩]]) .ret) (.seq (.seq (.reg [.seq [⟨some 11,.bi .eql (.t 3) (.c (.i .i64 3)),none⟩,⟨some 10,.mv (.t 11),none⟩]]) (.cond (.t 10) .skip (.reg [.seq [⟨some 12,.bi .eql (.t 3) (.c (.i .i64 4)),none⟩,⟨some 10,.mv (.t 12),none⟩]]))) (.cond (.t 10) (.seq (.reg [.seq [⟨some 2,.mv (.c (.i .i64 2)),none⟩]]) .ret) .skip)))))))) (.seq (.reg [.seq [⟨some 2,.mv (.c (.i .i64 (-1))),none⟩]]) .ret))), [.t 2]⟩
def ref01_Get.b1 : PCode := (.seq (.seq (.reg [.seq [⟨some 20,.mv (.t 9),none⟩,⟨some 21,.mv (.t 0),none⟩,⟨some 22,.ln .s (.t 21),none⟩,⟨some 23,.bi .lss (.t 20) (.t 22),none⟩]]) (.cond (.t 23) .skip (.exit 0))) (.seq (.block 1 (.seq (.reg [.seq [⟨some 26,.mv (.t 0),none⟩,⟨some 27,.mv (.t 9),none⟩,⟨some 28,.xs (.t 26) (.t 27),none⟩,⟨some 29,.ci .i64 (.t 28),none⟩,⟨some 10,.mv (.t 29),none⟩]]) (.seq (.seq (.reg [.seq [⟨some 30,.mv (.t 9),none⟩,⟨some 31,.mv (.t 1),none⟩,⟨some 32,.bi .gtr (.t 30) (.t 31),none⟩,⟨some 33,.mv (.t 32),none⟩,⟨some 34,.mv (.t 10),some (33,true)⟩,⟨some 35,.bi .eql (.t 34) (.c (.i .i64 0)),some (33,true)⟩,⟨some 36,.pk (.t 33) (.t 35) (.c (.b false)),none⟩,⟨some 37,.mv (.t 36),none⟩,⟨some 38,.mv (.t 9),some (37,false)⟩,⟨some 39,.mv (.t 1),some (37,false)⟩,⟨some 40,.bi .sub (.t 38) (.t 39),some (37,false)⟩,⟨some 41,.bi .gtr (.t 40) (.c (.i .i64 5)),some (37,false)⟩,⟨some 42,.pk (.t 37) (.c (.b true)) (.t 41),none⟩]]) (.cond (.t 42) (.seq (.reg [.seq [⟨some 4,.mv (.c (.i .i64 0)),none⟩,⟨some 5,.mv (.c (.i .i64 0)),none⟩,⟨some 6,.mv (.c (.i .i64 20)),none⟩]]) .ret) .skip)) (.seq (.reg [.seq [⟨some 43,.mv (.t 7),none⟩,⟨some 44,.mv (.t 10),none⟩,⟨some 45,.bi .rem (.t 44) (.c (.i .i64 128)),none⟩,⟨some 46,.mv (.t 8),none⟩,⟨some 47,.bi .mul (.t 45) (.t 46),none⟩,⟨some 48,.bi .add (.t 43) (.t 47),none⟩,⟨some 7,.mv (.t 48),none⟩]]) (.seq (.reg [.seq [⟨some 49,.mv (.t 8),none⟩,⟨some 50,.bi .mul (.t 49) (.c (.i .i64 128)),none⟩,⟨some 8,.mv (.t 50),none⟩]]) (.seq (.reg [.seq [⟨some 51,.mv (.t 10),none⟩,⟨some 52,.bi .lss (.t 51) (.c (.i .i64 128)),none⟩]]) (.cond (.t 52) (.seq (.seq (.reg [.seq [⟨some 53,.mv (.t 7),none⟩,⟨some 54,.bi .gtr (.t 53) (.c (.i .i64 1099511627776)),none⟩]]) (.cond (.t 54) (.seq (.reg [.seq [⟨some 4,.mv (.c (.i .i64 0)),none⟩,⟨some 5,.mv (.c (.i .i64 0)),none⟩,⟨some 6,.mv (.c (.i .i64 20)),none⟩]]) .ret) .skip)) (.seq (.reg [.seq [⟨some 55,.mv (.t 7),none⟩,⟨some 56,.mv (.t 9),none⟩,⟨some 57,.bi .add (.t 56) (.c (.i .i64 1)),none⟩,⟨some 4,.mv (.t 55),none⟩,⟨some 5,.mv (.t 57),none⟩,⟨some 6,.mv (.c (.i .i64 0)),none⟩]]) .ret)) .skip))))))) (.reg [.seq [⟨some 24,.mv (.t 9),none⟩,⟨some 25,.bi .add (.t 24) (.c (.i .i64 1)),none⟩,⟨some 9,.mv (.t 25),none⟩]])))
def ref01_Get.c : PFun := ⟨(.seq (.reg [.seq [⟨some 4,.mv (.c (.i .i64 0)),none⟩,⟨some 5,.mv (.c (.i .i64 0)),none⟩,⟨some 6,.mv (.c (.i .i64 0)),none⟩]]) (.seq (.seq (.reg [.seq [⟨some 11,.mv (.t 1),none⟩,⟨some 12,.bi .lss (.t 11) (.c (.i .i64 0)),none⟩,⟨some 13,.mv (.t 12),none⟩,⟨some 14,.mv (.t 1),some (13,false)⟩,⟨some 15,.mv (.t 0),some (13,false)⟩,⟨some 16,.ln .s (.t 15),some (13,false)⟩,⟨some 17,.bi .gtr (.t 14) (.t 16),some (13,false)⟩,⟨some 18,.pk (.t 13) (.c (.b true)) (.t 17),none⟩]]) (.cond (.t 18) (.seq (.reg [.seq [⟨some 4,.mv (.c (.i .i64 0)),none⟩,⟨some 5,.mv (.c (.i .i64 0)),none⟩,⟨some 6,.mv (.c (.i .i64 1)),none⟩]]) .ret) .skip)) (.seq (.reg [.seq [⟨some 7,.mv (.c (.i .i64 0)),none⟩]]) (.seq (.reg [.seq [⟨some 8,.mv (.c (.i .i64 1)),none⟩]]) (.seq (.seq (.reg [.seq [⟨some 19,.mv (.t 1),none⟩,⟨some 9,.mv (.t 19),none⟩]]) (.block 0 (.loop ref01_Get.b1))) (.seq (.reg [.seq [⟨some 4,.mv (.c (.i .i64 0)),none⟩,⟨some 5,.mv (.c (.i .i64 0)),none⟩,⟨some 6,.mv (.c (.i .i64 21)),none⟩]]) .ret)))))), [.t 4,.t 5,.t 6]⟩
def ref03_Get.c : PFun := ⟨(.seq (.reg [.seq [⟨some 4,.al [.i .i64 0,.i .i64 0,.ns],none⟩,⟨some 5,.mv (.c (.i .i64 0)),none⟩,⟨some 6,.mv (.c (.i .i64 0)),none⟩]]) (.seq (.seq (.reg [.seq [⟨some 9,.mv (.t 1),none⟩,⟨some 10,.bi .lss (.t 9) (.c (.i .i64 0)),none⟩,⟨some 11,.mv (.t 10),none⟩,⟨some 12,.mv (.t 1),some (11,false)⟩,⟨some 13,.mv (.t 0),some (11,false)⟩,⟨some 14,.ln .s (.t 13),some (11,false)⟩,⟨some 15,.bi .gtr (.t 12) (.t 14),some (11,false)⟩,⟨some 16,.pk (.t 11) (.c (.b true)) (.t 15),none⟩]]) (.cond (.t 16) (.seq (.reg [.seq [⟨some 17,.bd [.i .i64 0,.i .i64 0,.ns] [],none⟩,⟨none,.st 3 (.t 4) (.t 17),none⟩,⟨some 5,.mv (.c (.i .i64 0)),none⟩,⟨some 6,.mv (.c (.i .i64 1)),none⟩]]) .ret) .skip)) (.seq (.reg [.seq [⟨some 18,.mv (.t 0),none⟩,⟨some 19,.mv (.t 1),none⟩,⟨some 20,.bd [.s (bs []),.i .i64 0,.i .i64 0,.i .i64 0] [(0,1,.t 18),(1,1,.t 19)],none⟩,⟨some 21,.bx (.t 20),none⟩,⟨some 7,.mv (.t 21),none⟩]]) (.seq (.reg [.seq [⟨some 22,.mv (.t 7),none⟩,⟨some 23,.ca (.c (.fn (.func ref03_reader_level.n) [] [])) [.t 22,.c (.i .i64 0)],none⟩,⟨some 8,.al [.i .i64 0,.i .i64 0,.ns],none⟩,⟨none,.st 3 (.t 8) (.t 23),none⟩]]) (.seq (.seq (.reg [.seq [⟨some 24,.mv (.t 7),none⟩,⟨some 25,.nc (.t 24),none⟩,⟨some 26,.fa 3 (.t 25),none⟩,⟨some 27,.ld false 1 (.t 26),none⟩,⟨some 28,.bi .neq (.t 27) (.c (.i .i64 0)),none⟩]]) (.cond (.t 28) (.seq (.reg [.any [⟨some 29,.bd [.i .i64 0,.i .i64 0,.ns] [],none⟩,⟨some 30,.mv (.t 7),none⟩,⟨some 31,.nc (.t 30),none⟩,⟨some 32,.fa 3 (.t 31),none⟩,⟨some 33,.ld false 1 (.t 32),none⟩,⟨none,.st 3 (.t 4) (.t 29),none⟩,⟨some 5,.mv (.c (.i .i64 0)),none⟩] [(4,5)],.seq [⟨some 6,.mv (.t 33),none⟩]]) .ret) .skip)) (.seq (.reg [.any [⟨some 34,.ld true 3 (.t 8),none⟩,⟨some 35,.mv (.t 7),none⟩,⟨some 36,.nc (.t 35),none⟩,⟨some 37,.fa 1 (.t 36),none⟩,⟨some 38,.ld false 1 (.t 37),none⟩,⟨none,.st 3 (.t 4) (.t 34),none⟩] [(4,5)],.seq [⟨some 5,.mv (.t 38),none⟩],.seq [⟨some 6,.mv (.c (.i .i64 0)),none⟩]]) .ret)))))), [.c 4 true 3,.t 5,.t 6]⟩
def term_room_right_1.c : PFun := ⟨(.seq (.reg [.seq [⟨some 2,.bx (.t 0),none⟩,⟨some 3,.mv (.c (.b false)),none⟩]]) (.seq (.reg [.seq [⟨some 4,.ld true 3 (.t 2),none⟩,⟨some 5,.fa 1 (.t 1),none⟩,⟨some 6,.ld false 1 (.t 5),none⟩,⟨some 7,.fa 2 (.t 1),none⟩,⟨some 8,.ld false 1 (.t 7),none⟩,⟨some 9,.ca (.c (.fn (.func level_Right.n) [] [])) [.t 4,.t 6,.t 8],none⟩,⟨some 10,.un .not (.t 9),none⟩,⟨some 3,.mv (.t 10),none⟩]]) .ret)), [.t 3]⟩
def term_shapes.c : PFun := ⟨(.seq (.reg [.seq [⟨some 0,.mv (.c .nm),none⟩]]) (.seq (.reg [.seq [⟨some 1,.mm,none⟩,⟨some 2,.bd [.i .i64 0,.i .i64 0] [(0,1,.c (.i .i64 0)),(1,1,.c (.i .i64 (-1)))],none⟩,⟨none,.mu (.one .i) (.t 1) (.c (.i .i64 1)) (.t 2),none⟩,⟨some 3,.bd [.i .i64 0,.i .i64 0] [(0,1,.c (.i .i64 0)),(1,1,.c (.i .i64 (-1)))],none⟩,⟨none,.mu (.one .i) (.t 1) (.c (.i .i64 2)) (.t 3),none⟩,⟨some 4,.bd [.i .i64 0,.i .i64 0] [(0,1,.c (.i .i64 0)),(1,1,.c (.i .i64 (-1)))],none⟩,⟨none,.mu (.one .i) (.t 1) (.c (.i .i64 3)) (.t 4),none⟩,⟨some 5,.bd [.i .i64 0,.i .i64 0] [(0,1,.c (.i .i64 2)),(1,1,.c (.i .i64 (-1)))],none⟩,⟨none,.mu (.one .i) (.t 1) (.c (.i .i64 4)) (.t 5),none⟩,⟨some 6,.bd [.i .i64 0,.i .i64 0] [(0,1,.c (.i .i64 2)),(1,1,.c (.i .i64 1))],none⟩,⟨none,.mu (.one .i) (.t 1) (.c (.i .i64 5)) (.t 6),none⟩,⟨some 7,.bd [.i .i64 0,.i .i64 0] [(0,1,.c (.i .i64 2)),(1,1,.c (.i .i64 1))],none⟩,⟨none,.mu (.one .i) (.t 1) (.c (.i .i64 6)) (.t 7),none⟩,⟨some 8,.bd [.i .i64 0,.i .i64 0] [(0,1,.c (.i .i64 3)),(1,1,.c (.i .i64 2))],none⟩,⟨none,.mu (.one .i) (.t 1) (.c (.i .i64 7)) (.t 8),none⟩,⟨some 9,.mv (.t 1),none⟩,⟨some 0,.mv (.t 9),none⟩]]) .ret)), [.t 0]⟩
def term_room_named.c : PFun := ⟨(.seq (.reg [.seq [⟨some 2,.bx (.t 0),none⟩,⟨some 3,.bx (.t 1),none⟩,⟨some 4,.mv (.c (.b false)),none⟩]]) (.seq (.seq (.reg [.seq [⟨some 5,.fa 0 (.t 3),none⟩,⟨some 6,.ld false 1 (.t 5),none⟩]]) (.block 0 (.seq (.reg [.seq [⟨some 8,.bi .eql (.t 6) (.c (.i .i64 1)),none⟩,⟨some 7,.mv (.t 8),none⟩]]) (.cond (.t 7) (.seq (.reg [.seq [⟨some 9,.fa 1 (.t 3),none⟩,⟨some 10,.ld false 1 (.t 9),none⟩,⟨some 11,.bi .geq (.t 10) (.c (.i .i64 0)),none⟩,⟨some 12,.mv (.t 11),none⟩,⟨some 13,.fa 1 (.t 3),some (12,true)⟩,⟨some 14,.ld false 1 (.t 13),some (12,true)⟩,⟨some 15,.fa 0 (.t 2),some (12,true)⟩,⟨some 16,.ld false 1 (.t 15),some (12,true)⟩,⟨some 17,.bi .lss (.t 14) (.t 16),some (12,true)⟩,⟨some 18,.pk (.t 12) (.t 17) (.c (.b false)),none⟩,⟨some 19,.mv (.t 18),none⟩,⟨some 20,.fa 2 (.t 3),some (19,true)⟩,⟨some 21,.ld false 1 (.t 20),some (19,true)⟩,⟨some 22,.ln .l (.t 21),some (19,true)⟩,⟨some 23,.bi .eql (.t 22) (.c (.i .i64 0)),some (19,true)⟩,⟨some 24,.pk (.t 19) (.t 23) (.c (.b false)),none⟩,⟨some 4,.mv (.t 24),none⟩]]) .ret) (.seq (.reg [.seq [⟨some 26,.bi .eql (.t 6) (.c (.i .i64 3)),none⟩,⟨some 25,.mv (.t 26),none⟩]]) (.cond (.t 25) (.seq (.reg [.seq [⟨some 27,.fa 1 (.t 3),none⟩,⟨some 28,.ld false 1 (.t 27),none⟩,⟨some 29,.bi .geq (.t 28) (.c (.i .i64 0)),none⟩,⟨some 30,.mv (.t 29),none⟩,⟨some 31,.fa 1 (.t 3),some (30,true)⟩,⟨some 32,.ld false 1 (.t 31),some (30,true)⟩,⟨some 33,.bi .lss (.t 32) (.c (.i .i64 20)),some (30,true)⟩,⟨some 34,.pk (.t 30) (.t 33) (.c (.b false)),none⟩,⟨some 35,.mv (.t 34),none⟩,⟨some 36,.fa 2 (.t 3),some (35,true)⟩,⟨some 37,.ld false 1 (.t 36),some (35,true)⟩,⟨some 38,.ln .l (.t 37),some (35,true)⟩,⟨some 39,.bi .leq (.t 38) (.c (.i .i64 5)),some (35,true)⟩,⟨some 40,.pk (.t 35) (.t 39) (.c (.b false)),none⟩,⟨some 4,.mv (.t 40),none⟩]]) .ret) (.seq (.reg [.seq [⟨some 42,.bi .eql (.t 6) (.c (.i .i64 2)),none⟩,⟨some 41,.mv (.t 42),none⟩]]) (.cond (.t 41) (.seq (.reg [.seq [⟨some 43,.fa 1 (.t 3),none⟩,⟨some 44,.ld false 1 (.t 43),none⟩,⟨some 45,.bi .eql (.t 44) (.c (.i .i64 0)),none⟩,⟨some 46,.mv (.t 45),none⟩,⟨some 47,.fa 2 (.t 3),some (46,true)⟩,⟨some 48,.ld false 1 (.t 47),some (46,true)⟩,⟨some 49,.ln .l (.t 48),some (46,true)⟩,⟨some 50,.bi .eql (.t 49) (.c (.i .i64 1)),some (46,true)⟩,⟨some 51,.pk (.t 46) (.t 50) (.c (.b false)),none⟩,⟨some 4,.mv (.t 51),none⟩]]) .ret) .skip)))))))) (.seq (.reg [.seq [⟨some 52,.fa 1 (.t 3),none⟩,⟨some 53,.ld false 1 (.t 52),none⟩,⟨some 54,.bi .eql (.t 53) (.c (.i .i64 0)),none⟩,⟨some 55,.mv (.t 54),none⟩,⟨some 56,.fa 2 (.t 3),some (55,true)⟩,⟨some 57,.ld false 1 (.t 56),some (55,true)⟩,⟨some 58,.ln .l (.t 57),some (55,true)⟩,⟨some 59,.bi .eql (.t 58) (.c (.i .i64 0)),some (55,true)⟩,⟨some 60,.pk (.t 55) (.t 59) (.c (.b false)),none⟩,⟨some 4,.mv (.t 60),none⟩]]) .ret))), [.t 4]⟩
def term_below.c : PFun := ⟨(.seq (.reg [.seq [⟨some 2,.bx (.t 0),none⟩,⟨some 4,.mv (.c (.i .i64 0)),none⟩]]) (.seq (.seq (.reg [.any [⟨some 5,.ca (.c (.fn (.func term_shapes.n) [] [])) [],none⟩,⟨some 6,.fa 0 (.t 2),none⟩,⟨some 7,.ld false 1 (.t 6),none⟩,⟨some 8,.lk (.one .i) (.ag [.i .i64 0,.i .i64 0]) (.t 5) (.t 7) false,none⟩,⟨some 9,.fe false 1 1 (.t 8),none⟩,⟨some 10,.mv (.t 1),none⟩] [(0,2)],.seq [⟨some 11,.bi .eql (.t 9) (.t 10),none⟩]]) (.cond (.t 11) (.seq (.reg [.seq [⟨some 4,.mv (.c (.i .i64 1)),none⟩]]) .ret) .skip)) (.seq (.reg [.seq [⟨some 4,.mv (.c (.i .i64 0)),none⟩]]) .ret))), [.t 4]⟩
def octet_digits.c : PFun := ⟨(.seq (.reg [.seq [⟨some 1,.bx (.t 0),none⟩,⟨some 2,.mv (.c .nf),none⟩]]) (.seq (.reg [.seq [⟨some 3,.mf (.func octet_digits_1.n) [] [.t 1],none⟩,⟨some 2,.mv (.t 3),none⟩]]) .ret)), [.t 2]⟩
def lcode_write_1.c : PFun := ⟨(.seq (.reg [.seq [⟨some 6,.mv (.t 0),none⟩,⟨some 7,.ca (.c (.fn (.func octet_Put.n) [] [])) [.t 6],none⟩,⟨some 5,.mv (.t 7),none⟩,⟨some 8,.ex (.t 5) 0,none⟩,⟨some 9,.ex (.t 5) 1,none⟩,⟨some 3,.mv (.t 8),none⟩,⟨some 4,.mv (.t 9),none⟩]]) (.reg [.seq [⟨some 10,.ld false 1 (.t 1),none⟩,⟨some 11,.mv (.t 3),none⟩,⟨some 12,.ca (.c (.fn (.func strings_Builder_WriteString.n) [] [])) [.t 10,.t 11],none⟩]])), []⟩
def lcode_named.c : PFun := ⟨(.seq (.reg [.seq [⟨some 2,.mv (.c (.i .i64 0)),none⟩]]) (.seq (.seq (.reg [.seq [⟨some 3,.mv (.t 0),none⟩]]) (.block 0 (.seq (.reg [.seq [⟨some 5,.bi .eql (.t 3) (.c (.i .i64 5)),none⟩,⟨some 4,.mv (.t 5),none⟩]]) (.cond (.t 4) (.seq (.reg [.seq [⟨some 2,.mv (.c (.i .i64 5)),none⟩]]) .ret) (.seq (.reg [.seq [⟨some 7,.bi .eql (.t 3) (.c (.i .i64 6)),none⟩,⟨some 6,.mv (.t 7),none⟩]]) (.cond (.t 6) (.seq (.reg [.seq [⟨some 2,.mv (.c (.i .i64 10)),none⟩]]) .ret) .skip)))))) (.seq (.reg [.seq [⟨some 2,.mv (.c (.i .i64 0)),none⟩]]) .ret))), [.t 2]⟩
def ref13_kids.c : PFun := ⟨(.seq (.reg [.seq [⟨some 2,.mv (.c (.i .i64 0)),none⟩]]) (.seq (.seq (.reg [.seq [⟨some 3,.mv (.t 0),none⟩]]) (.block 0 (.seq (.seq (.reg [.seq [⟨some 5,.bi .eql (.t 3) (.c (.i .i64 1)),none⟩,⟨some 4,.mv (.t 5),none⟩]]) (.cond (.t 4) .skip (.seq (.reg [.seq [⟨some 6,.bi .eql (.t 3) (.c (.i .i64 2)),none⟩,⟨some 4,.mv (.t 6),none⟩]]) (.cond (.t 4) .skip (.reg [.seq [⟨some 7,.bi .eql (.t 3) (.c (.i .i64 3)),none⟩,⟨some 4,.mv (.t 7),none⟩]]))))) (.cond (.t 4) (.seq (.reg [.seq [⟨some 2,.mv (.c (.i .i64 0)),none⟩]]) .ret) (.seq (.seq (.reg [.seq [⟨some 9,.bi .eql (.t 3) (.c (.i .i64 4)),none⟩,⟨some 8,.mv (.t 9),none⟩]]) (.cond (.t 8) .skip (.seq (.reg [.seq [⟨some 10,.bi .eql (.t 3) (.c (.i .i64 5)),none⟩,⟨some 8,.mv (.t 10),none⟩]]) (.cond (.t 8) .skip (.reg [.seq [⟨some 11,.bi .eql (.t 3) (.c (.i .i64 6)),none⟩,⟨some 8,.mv (.t 11),none⟩]]))))) (.cond (.t 8) (.seq (.reg [.seq [⟨some 2,.mv (.c (.i .i64 2)),none⟩]]) .ret) (.seq (.reg [.seq [⟨some 13,.bi .eql (.t 3) (.c (.i .i64 7)),none⟩,⟨some 12,.mv (.t 13),none⟩]]) (.cond (.t 12) (.seq (.reg [.seq [⟨some 2,.mv (.c (.i .i64 3)),none⟩]]) .ret) .skip)))))))) (.seq (.reg [.seq [⟨some 2,.mv (.c (.i .i64 (-1))),none⟩]]) .ret))), [.t 2]⟩
def ref13_named.b1 : PCode := (.seq (.seq (.reg [.seq [⟨some 10,.mv (.t 9),none⟩,⟨some 11,.fa 2 (.t 4),none⟩,⟨some 12,.ld false 1 (.t 11),none⟩,⟨some 13,.ln .l (.t 12),none⟩,⟨some 14,.bi .lss (.t 10) (.t 13),none⟩]]) (.cond (.t 14) .skip (.exit 0))) (.seq (.block 1 (.seq (.reg [.seq [⟨some 17,.fa 2 (.t 4),none⟩,⟨some 18,.ld false 1 (.t 17),none⟩,⟨some 19,.mv (.t 9),none⟩,⟨some 20,.ia 3 (.t 18) (.t 19),none⟩,⟨some 21,.ld true 3 (.t 20),none⟩,⟨some 22,.mv (.t 2),none⟩,⟨some 23,.mv (.t 3),none⟩,⟨some 24,.ca (.c (.fn (.func ref02_Right.n) [] [])) [.t 21,.t 22,.t 23],none⟩,⟨some 25,.un .not (.t 24),none⟩]]) (.cond (.t 25) (.seq (.reg [.seq [⟨some 8,.mv (.c (.b false)),none⟩]]) .ret) .skip))) (.reg [.seq [⟨some 15,.mv (.t 9),none⟩,⟨some 16,.bi .add (.t 15) (.c (.i .i64 1)),none⟩,⟨some 9,.mv (.t 16),none⟩]])))
def ref13_named.c : PFun := ⟨(.seq (.reg [.seq [⟨some 4,.bx (.t 0),none⟩,⟨some 8,.mv (.c (.b false)),none⟩]]) (.seq (.seq (.reg [.seq [⟨some 9,.mv (.c (.i .i64 0)),none⟩]]) (.block 0 (.loop ref13_named.b1))) (.seq (.seq (.reg [.seq [⟨some 26,.fa 0 (.t 4),none⟩,⟨some 27,.ld false 1 (.t 26),none⟩]]) (.block 2 (.seq (.reg [.seq [⟨some 29,.bi .eql (.t 27) (.c (.i .i64 1)),none⟩,⟨some 28,.mv (.t 29),none⟩]]) (.cond (.t 28) (.seq (.reg [.seq [⟨some 30,.fa 1 (.t 4),none⟩,⟨some 31,.ld false 1 (.t 30),none⟩,⟨some 32,.bi .geq (.t 31) (.c (.i .i64 0)),none⟩,⟨some 33,.mv (.t 32),none⟩,⟨some 34,.fa 1 (.t 4),some (33,true)⟩,⟨some 35,.ld false 1 (.t 34),some (33,true)⟩,⟨some 36,.mv (.t 1),some (33,true)⟩,⟨some 37,.bi .lss (.t 35) (.t 36),some (33,true)⟩,⟨some 38,.pk (.t 33) (.t 37) (.c (.b false)),none⟩,⟨some 39,.mv (.t 38),none⟩,⟨some 40,.fa 2 (.t 4),some (39,true)⟩,⟨some 41,.ld false 1 (.t 40),some (39,true)⟩,⟨some 42,.ln .l (.t 41),some (39,true)⟩,⟨some 43,.bi .eql (.t 42) (.c (.i .i64 0)),some (39,true)⟩,⟨some 44,.pk (.t 39) (.t 43) (.c (.b false)),none⟩,⟨some 8,.mv (.t 44),none⟩]]) .ret) (.seq (.reg [.seq [⟨some 46,.bi .eql (.t 27) (.c (.i .i64 2)),none⟩,⟨some 45,.mv (.t 46),none⟩]]) (.cond (.t 45) (.seq (.reg [.seq [⟨some 47,.fa 1 (.t 4),none⟩,⟨some 48,.ld false 1 (.t 47),none⟩,⟨some 49,.bi .eql (.t 48) (.c (.i .i64 0)),none⟩,⟨some 50,.mv (.t 49),none⟩,⟨some 51,.fa 2 (.t 4),some (50,true)⟩,⟨some 52,.ld false 1 (.t 51),some (50,true)⟩,⟨some 53,.ln .l (.t 52),some (50,true)⟩,⟨some 54,.bi .eql (.t 53) (.c (.i .i64 1)),some (50,true)⟩,⟨some 55,.pk (.t 50) (.t 54) (.c (.b false)),none⟩,⟨some 8,.mv (.t 55),none⟩]]) .ret) (.seq (.reg [.seq [⟨some 57,.bi .eql (.t 27) (.c (.i .i64 3)),none⟩,⟨some 56,.mv (.t 57),none⟩]]) (.cond (.t 56) (.seq (.reg [.seq [⟨some 58,.fa 1 (.t 4),none⟩,⟨some 59,.ld false 1 (.t 58),none⟩,⟨some 60,.bi .geq (.t 59) (.c (.i .i64 0)),none⟩,⟨some 61,.mv (.t 60),none⟩,⟨some 62,.fa 1 (.t 4),some (61,true)⟩,⟨some 63,.ld false 1 (.t 62),some (61,true)⟩,⟨some 64,.bi .lss (.t 63) (.c (.i .i64 20)),some (61,true)⟩,⟨some 65,.pk (.t 61) (.t 64) (.c (.b false)),none⟩,⟨some 66,.mv (.t 65),none⟩,⟨some 67,.fa 2 (.t 4),some (66,true)⟩,⟨some 68,.ld false 1 (.t 67),some (66,true)⟩,⟨some 69,.ln .l (.t 68),some (66,true)⟩,⟨some 70,.bi .leq (.t 69) (.c (.i .i64 5)),some (66,true)⟩,⟨some 71,.pk (.t 66) (.t 70) (.c (.b false)),none⟩,⟨some 8,.mv (.t 71),none⟩]]) .ret) .skip)))))))) (.seq (.reg [.seq [⟨some 72,.fa 1 (.t 4),none⟩,⟨some 73,.ld false 1 (.t 72),none⟩,⟨some 74,.bi .eql (.t 73) (.c (.i .i64 0)),none⟩,⟨some 75,.mv (.t 74),none⟩,⟨some 76,.fa 2 (.t 4),some (75,true)⟩,⟨some 77,.ld false 1 (.t 76),some (75,true)⟩,⟨some 78,.ln .l (.t 77),some (75,true)⟩,⟨some 79,.bi .eql (.t 78) (.c (.i .i64 0)),some (75,true)⟩,⟨some 80,.pk (.t 75) (.t 79) (.c (.b false)),none⟩,⟨some 8,.mv (.t 80),none⟩]]) .ret)))), [.t 8]⟩
def ref13_binds.c : PFun := ⟨(.seq (.reg [.seq [⟨some 4,.mv (.c (.i .i64 0)),none⟩]]) (.seq (.seq (.reg [.seq [⟨some 5,.mv (.t 0),none⟩,⟨some 6,.bi .eql (.t 5) (.c (.i .i64 5)),none⟩,⟨some 7,.mv (.t 6),none⟩,⟨some 8,.mv (.t 0),some (7,false)⟩,⟨some 9,.bi .eql (.t 8) (.c (.i .i64 6)),some (7,false)⟩,⟨some 10,.pk (.t 7) (.c (.b true)) (.t 9),none⟩,⟨some 11,.mv (.t 10),none⟩,⟨some 12,.mv (.t 1),some (11,true)⟩,⟨some 13,.bi .eql (.t 12) (.c (.i .i64 1)),some (11,true)⟩,⟨some 14,.pk (.t 11) (.t 13) (.c (.b false)),none⟩,⟨some 15,.mv (.t 14),none⟩,⟨some 16,.mv (.t 0),some (15,false)⟩,⟨some 17,.bi .eql (.t 16) (.c (.i .i64 7)),some (15,false)⟩,⟨some 18,.mv (.t 17),some (15,false)⟩,⟨some 19,.mv (.t 1),some (18,true)⟩,⟨some 20,.bi .eql (.t 19) (.c (.i .i64 2)),some (18,true)⟩,⟨some 21,.pk (.t 18) (.t 20) (.c (.b false)),some (15,false)⟩,⟨some 22,.pk (.t 15) (.c (.b true)) (.t 21),none⟩]]) (.cond (.t 22) (.seq (.reg [.seq [⟨some 4,.mv (.c (.i .i64 1)),none⟩]]) .ret) .skip)) (.seq (.reg [.seq [⟨some 4,.mv (.c (.i .i64 0)),none⟩]]) .ret))), [.t 4]⟩
def tcode_reader_levels.b1 : PCode := (.seq (.reg [.seq [⟨some 10,.bi .lss (.t 9) (.t 8),none⟩]]) (.seq (.cond (.t 10) .skip (.exit 0)) (.seq (.block 1 (.seq (.reg [.any [⟨some 12,.mv (.t 0),none⟩,⟨some 13,.nc (.t 12),none⟩,⟨some 14,.fa 0 (.t 13),none⟩,⟨some 15,.ld false 1 (.t 14),none⟩,⟨some 16,.mv (.t 0),none⟩,⟨some 17,.nc (.t 16),none⟩,⟨some 18,.fa 1 (.t 17),none⟩,⟨some 19,.ld false 1 (.t 18),none⟩,⟨some 20,.ca (.c (.fn (.func lcode_Get.n) [] [])) [.t 15,.t 19],none⟩,⟨some 11,.mv (.t 20),none⟩,⟨some 21,.ex (.t 11) 0,none⟩,⟨some 22,.ex (.t 11) 1,none⟩,⟨some 23,.ex (.t 11) 2,none⟩,⟨some 5,.al [.i .i64 0,.i .i64 0,.ns],none⟩,⟨none,.st 3 (.t 5) (.t 21),none⟩,⟨some 6,.mv (.t 22),none⟩] [(3,13),(7,13),(8,13)],.seq [⟨some 7,.mv (.t 23),none⟩]]) (.seq (.seq (.reg [.seq [⟨some 24,.mv (.t 7),none⟩,⟨some 25,.bi .neq (.t 24) (.c (.i .i64 0)),none⟩]]) (.cond (.t 25) (.seq (.reg [.seq [⟨some 26,.mv (.t 0),none⟩,⟨some 27,.mv (.t 7),none⟩,⟨some 28,.ca (.c (.fn (.func tcode_reader_fail.n) [] [])) [.t 26,.t 27],none⟩]]) (.seq (.reg [.seq [⟨some 29,.mv (.t 4),none⟩,⟨some 4,.mv (.t 29),none⟩]]) .ret)) .skip)) (.seq (.reg [.seq [⟨some 30,.mv (.t 0),none⟩,⟨some 31,.mv (.t 6),none⟩,⟨some 32,.nc (.t 30),none⟩,⟨some 33,.fa 1 (.t 32),none⟩,⟨none,.st 1 (.t 33) (.t 31),none⟩]]) (.reg [.seq [⟨some 34,.mv (.t 4),none⟩,⟨some 35,.ld true 3 (.t 5),none⟩,⟨some 36,.bs 3 1 [.i .i64 0,.i .i64 0,.ns] [(0,3,.t 35)],none⟩,⟨some 37,.ap 3 (.t 34) (.t 36),none⟩,⟨some 4,.mv (.t 37),none⟩]]))))) (.reg [.seq [⟨some 38,.bi .add (.t 9) (.c (.i .i64 1)),none⟩,⟨some 9,.mv (.t 38),none⟩]]))))
def tcode_reader_levels.c : PFun := ⟨(.seq (.reg [.seq [⟨some 4,.mv (.c .ns),none⟩]]) (.seq (.seq (.reg [.seq [⟨some 8,.mv (.t 1),none⟩,⟨some 9,.mv (.c (.i .i64 0)),none⟩]]) (.block 0 (.loop tcode_reader_levels.b1))) (.seq (.reg [.seq [⟨some 39,.mv (.t 4),none⟩,⟨some 4,.mv (.t 39),none⟩]]) .ret))), [.t 4]⟩
def tcode_reader_kids.b1 : PCode := (.seq (.reg [.seq [⟨some 13,.bi .lss (.t 12) (.t 11),none⟩]]) (.seq (.cond (.t 13) .skip (.exit 0)) (.seq (.block 1 (.seq (.reg [.seq [⟨some 14,.mv (.t 12),none⟩,⟨some 9,.mv (.t 14),none⟩]]) (.seq (.seq (.reg [.seq [⟨some 15,.mv (.t 0),none⟩,⟨some 16,.nc (.t 15),none⟩,⟨some 17,.fa 3 (.t 16),none⟩,⟨some 18,.ld false 1 (.t 17),none⟩,⟨some 19,.bi .neq (.t 18) (.c (.i .i64 0)),none⟩]]) (.cond (.t 19) (.seq (.reg [.seq [⟨some 20,.ld true 4 (.t 8),none⟩,⟨none,.st 4 (.t 8) (.t 20),none⟩]]) .ret) .skip)) (.seq (.reg [.seq [⟨some 21,.fa 0 (.t 5),none⟩,⟨some 22,.ld false 1 (.t 21),none⟩,⟨some 23,.bi .add (.t 22) (.c (.i .i64 1)),none⟩,⟨some 24,.fa 1 (.t 5),none⟩,⟨some 25,.ld false 1 (.t 24),none⟩,⟨some 26,.bd [.i .i64 0,.i .i64 0] [(0,1,.t 23),(1,1,.t 25)],none⟩,⟨some 10,.al [.i .i64 0,.i .i64 0],none⟩,⟨none,.st 2 (.t 10) (.t 26),none⟩]]) (.seq (.seq (.reg [.seq [⟨some 27,.mv (.t 9),none⟩,⟨some 28,.mv (.t 3),none⟩,⟨some 29,.bi .eql (.t 27) (.t 28),none⟩]]) (.cond (.t 29) (.reg [.seq [⟨some 30,.fa 1 (.t 10),none⟩,⟨some 31,.ld false 1 (.t 30),none⟩,⟨some 32,.bi .add (.t 31) (.c (.i .i64 1)),none⟩,⟨some 33,.fa 1 (.t 10),none⟩,⟨none,.st 1 (.t 33) (.t 32),none⟩]]) .skip)) (.reg [.any [⟨some 34,.fa 3 (.t 8),none⟩,⟨some 35,.ld false 1 (.t 34),none⟩,⟨some 36,.mv (.t 0),none⟩,⟨some 37,.ld true 2 (.t 10),none⟩,⟨some 38,.ca (.c (.fn (.func tcode_reader_term.n) [] [])) [.t 36,.t 37],none⟩,⟨some 39,.bs 4 1 [.i .i64 0,.i .i64 0,.ns,.ns] [(0,4,.t 38)],none⟩] [(1,4),(1,5)],.seq [⟨some 40,.ap 4 (.t 35) (.t 39),none⟩],.seq [⟨some 41,.fa 3 (.t 8),none⟩],.seq [⟨none,.st 1 (.t 41) (.t 40),none⟩]])))))) (.reg [.seq [⟨some 42,.bi .add (.t 12) (.c (.i .i64 1)),none⟩,⟨some 12,.mv (.t 42),none⟩]]))))
def tcode_reader_kids.c : PFun := ⟨(.seq (.reg [.seq [⟨some 5,.bx (.t 1),none⟩,⟨some 8,.al [.i .i64 0,.i .i64 0,.ns,.ns],none⟩]]) (.seq (.seq (.reg [.seq [⟨some 11,.mv (.t 2),none⟩,⟨some 12,.mv (.c (.i .i64 0)),none⟩]]) (.block 0 (.loop tcode_reader_kids.b1))) (.seq (.reg [.seq [⟨some 43,.ld true 4 (.t 8),none⟩,⟨none,.st 4 (.t 8) (.t 43),none⟩]]) .ret))), [.c 8 true 4]⟩
def level_kinds_1.c : PFun := ⟨(.seq (.reg [.seq [⟨some 3,.bx (.t 0),none⟩,⟨some 4,.bx (.t 1),none⟩,⟨some 6,.mv (.c (.i .i64 0)),none⟩]]) (.seq (.reg [.seq [⟨some 6,.mv (.c (.i .i64 0)),none⟩]]) .ret)), [.t 6]⟩
def level_kinds_2.c : PFun := ⟨(.seq (.reg [.seq [⟨some 3,.bx (.t 0),none⟩,⟨some 4,.bx (.t 1),none⟩,⟨some 6,.mv (.c (.i .i64 0)),none⟩]]) (.seq (.reg [.seq [⟨some 7,.mv (.t 2),none⟩,⟨some 8,.ia 1 (.t 7) (.c (.i .i64 0)),none⟩,⟨some 9,.ld false 1 (.t 8),none⟩,⟨some 10,.bi .add (.t 9) (.c (.i .i64 1)),none⟩,⟨some 6,.mv (.t 10),none⟩]]) .ret)), [.t 6]⟩
def level_kinds_3.c : PFun := ⟨(.seq (.reg [.seq [⟨some 3,.bx (.t 0),none⟩,⟨some 4,.bx (.t 1),none⟩,⟨some 6,.mv (.c (.i .i64 0)),none⟩]]) (.seq (.reg [.any [⟨some 7,.mv (.t 2),none⟩,⟨some 8,.ia 1 (.t 7) (.c (.i .i64 0)),none⟩,⟨some 9,.ld false 1 (.t 8),none⟩,⟨some 10,.mv (.t 2),none⟩,⟨some 11,.ia 1 (.t 10) (.c (.i .i64 1)),none⟩,⟨some 12,.ld false 1 (.t 11),none⟩] [],.seq [⟨some 13,.mx [.t 9,.t 12],none⟩],.seq [⟨some 6,.mv (.t 13),none⟩]]) .ret)), [.t 6]⟩
def level_kinds_4.c : PFun := ⟨(.seq (.reg [.seq [⟨some 3,.bx (.t 0),none⟩,⟨some 4,.bx (.t 1),none⟩,⟨some 6,.mv (.c (.i .i64 0)),none⟩]]) (.seq (.reg [.any [⟨some 7,.mv (.t 2),none⟩,⟨some 8,.ia 1 (.t 7) (.c (.i .i64 0)),none⟩,⟨some 9,.ld false 1 (.t 8),none⟩,⟨some 10,.mv (.t 2),none⟩,⟨some 11,.ia 1 (.t 10) (.c (.i .i64 1)),none⟩,⟨some 12,.ld false 1 (.t 11),none⟩] [],.seq [⟨some 13,.ca (.c (.fn (.func level_imax.n) [] [])) [.t 9,.t 12],none⟩],.seq [⟨some 6,.mv (.t 13),none⟩]]) .ret)), [.t 6]⟩
def level_imax.c : PFun := ⟨(.seq (.reg [.seq [⟨some 4,.mv (.c (.i .i64 0)),none⟩]]) (.seq (.seq (.reg [.seq [⟨some 5,.mv (.t 1),none⟩,⟨some 6,.bi .eql (.t 5) (.c (.i .i64 0)),none⟩]]) (.cond (.t 6) (.seq (.reg [.seq [⟨some 4,.mv (.c (.i .i64 0)),none⟩]]) .ret) .skip)) (.seq (.reg [.seq [⟨some 7,.mv (.t 0),none⟩,⟨some 8,.mv (.t 1),none⟩,⟨some 9,.mx [.t 7,.t 8],none⟩,⟨some 4,.mv (.t 9),none⟩]]) .ret))), [.t 4]⟩
def level_kinds_5.c : PFun := ⟨(.seq (.reg [.seq [⟨some 3,.bx (.t 0),none⟩,⟨some 4,.bx (.t 1),none⟩,⟨some 6,.mv (.c (.i .i64 0)),none⟩]]) (.seq (.reg [.seq [⟨some 7,.fa 0 (.t 4),none⟩,⟨some 8,.ld false 1 (.t 7),none⟩,⟨some 9,.fa 1 (.t 3),none⟩,⟨some 10,.ld false 1 (.t 9),none⟩,⟨some 11,.ia 1 (.t 8) (.t 10),none⟩,⟨some 12,.ld false 1 (.t 11),none⟩,⟨some 6,.mv (.t 12),none⟩]]) .ret)), [.t 6]⟩
def level_kinds_6.c : PFun := ⟨(.seq (.reg [.seq [⟨some 3,.bx (.t 0),none⟩,⟨some 4,.bx (.t 1),none⟩,⟨some 6,.mv (.c (.i .i64 0)),none⟩]]) (.seq (.reg [.seq [⟨some 7,.fa 1 (.t 4),none⟩,⟨some 8,.ld false 1 (.t 7),none⟩,⟨some 9,.fa 1 (.t 3),none⟩,⟨some 10,.ld false 1 (.t 9),none⟩,⟨some 11,.ia 1 (.t 8) (.t 10),none⟩,⟨some 12,.ld false 1 (.t 11),none⟩,⟨some 6,.mv (.t 12),none⟩]]) .ret)), [.t 6]⟩
def slices_IndexFunc_Level.b1 : PCode := (.seq (.reg [.seq [⟨some 9,.bi .lss (.t 8) (.t 7),none⟩]]) (.seq (.cond (.t 9) .skip (.exit 0)) (.seq (.block 1 (.seq (.reg [.seq [⟨some 10,.mv (.t 8),none⟩,⟨some 5,.mv (.t 10),none⟩]]) (.seq (.reg [.seq [⟨some 11,.mv (.t 1),none⟩,⟨some 12,.mv (.t 0),none⟩,⟨some 13,.mv (.t 5),none⟩,⟨some 14,.ia 3 (.t 12) (.t 13),none⟩,⟨some 15,.ld true 3 (.t 14),none⟩,⟨some 16,.ca (.t 11) [.t 15],none⟩]]) (.cond (.t 16) (.seq (.reg [.seq [⟨some 17,.mv (.t 5),none⟩,⟨some 4,.mv (.t 17),none⟩]]) .ret) .skip)))) (.reg [.seq [⟨some 18,.bi .add (.t 8) (.c (.i .i64 1)),none⟩,⟨some 8,.mv (.t 18),none⟩]]))))
def slices_IndexFunc_Level.c : PFun := ⟨(.seq (.reg [.seq [⟨some 4,.mv (.c (.i .i64 0)),none⟩]]) (.seq (.seq (.reg [.seq [⟨some 6,.mv (.t 0),none⟩,⟨some 7,.ln .l (.t 6),none⟩,⟨some 8,.mv (.c (.i .i64 0)),none⟩]]) (.block 0 (.loop slices_IndexFunc_Level.b1))) (.seq (.reg [.seq [⟨some 4,.mv (.c (.i .i64 (-1))),none⟩]]) .ret))), [.t 4]⟩
def slices_Max_int.b1 : PCode := (.seq (.seq (.reg [.seq [⟨some 12,.mv (.t 4),none⟩,⟨some 13,.mv (.t 0),none⟩,⟨some 14,.ln .l (.t 13),none⟩,⟨some 15,.bi .lss (.t 12) (.t 14),none⟩]]) (.cond (.t 15) .skip (.exit 0))) (.seq (.block 1 (.reg [.seq [⟨some 18,.mv (.t 3),none⟩,⟨some 19,.mv (.t 0),none⟩,⟨some 20,.mv (.t 4),none⟩,⟨some 21,.ia 1 (.t 19) (.t 20),none⟩,⟨some 22,.ld false 1 (.t 21),none⟩,⟨some 23,.mx [.t 18,.t 22],none⟩,⟨some 3,.mv (.t 23),none⟩]])) (.reg [.seq [⟨some 16,.mv (.t 4),none⟩,⟨some 17,.bi .add (.t 16) (.c (.i .i64 1)),none⟩,⟨some 4,.mv (.t 17),none⟩]])))
def slices_Max_int.c : PFun := ⟨(.seq (.reg [.seq [⟨some 2,.mv (.c (.i .i64 0)),none⟩]]) (.seq (.seq (.reg [.seq [⟨some 5,.mv (.t 0),none⟩,⟨some 6,.ln .l (.t 5),none⟩,⟨some 7,.bi .lss (.t 6) (.c (.i .i64 1)),none⟩]]) (.cond (.t 7) (.reg [.seq [⟨some 8,.mi 9 (.c (.s (bs [115,108,105,99,101,115,46,77,97,120,58,32,101,109,112,116,121,32,108,105,115,116]))),none⟩,⟨none,.pa (.t 8),none⟩]]) .skip)) (.seq (.reg [.seq [⟨some 9,.mv (.t 0),none⟩,⟨some 10,.ia 1 (.t 9) (.c (.i .i64 0)),none⟩,⟨some 11,.ld false 1 (.t 10),none⟩,⟨some 3,.mv (.t 11),none⟩]]) (.seq (.seq (.reg [.seq [⟨some 4,.mv (.c (.i .i64 1)),none⟩]]) (.block 0 (.loop slices_Max_int.b1))) (.seq (.reg [.seq [⟨some 24,.mv (.t 3),none⟩,⟨some 2,.mv (.t 24),none⟩]]) .ret))))), [.t 2]⟩
def slices_ContainsFunc_Clause.c : PFun := ⟨(.seq (.reg [.seq [⟨some 4,.mv (.c (.b false)),none⟩]]) (.seq (.reg [.seq [⟨some 5,.mv (.t 0),none⟩,⟨some 6,.mv (.t 1),none⟩,⟨some 7,.ca (.c (.fn (.func slices_IndexFunc_Clause.n) [] [])) [.t 5,.t 6],none⟩,⟨some 8,.bi .geq (.t 7) (.c (.i .i64 0)),none⟩,⟨some 4,.mv (.t 8),none⟩]]) .ret)), [.t 4]⟩
def ref03_reader_level.b1 : PCode := (.seq (.seq (.reg [.seq [⟨some 79,.mv (.t 8),none⟩,⟨some 80,.mv (.t 6),none⟩,⟨some 81,.bi .lss (.t 79) (.t 80),none⟩,⟨some 82,.mv (.t 81),none⟩,⟨some 83,.mv (.t 0),some (82,true)⟩,⟨some 84,.nc (.t 83),some (82,true)⟩,⟨some 85,.fa 3 (.t 84),some (82,true)⟩,⟨some 86,.ld false 1 (.t 85),some (82,true)⟩,⟨some 87,.bi .eql (.t 86) (.c (.i .i64 0)),some (82,true)⟩,⟨some 88,.pk (.t 82) (.t 87) (.c (.b false)),none⟩]]) (.cond (.t 88) .skip (.exit 1))) (.seq (.block 2 (.reg [.any [⟨some 91,.fa 2 (.t 5),none⟩,⟨some 92,.ld false 1 (.t 91),none⟩,⟨some 93,.mv (.t 0),none⟩,⟨some 94,.mv (.t 1),none⟩,⟨some 95,.bi .add (.t 94) (.c (.i .i64 1)),none⟩,⟨some 96,.ca (.c (.fn (.func ref03_reader_level.n) [] [])) [.t 93,.t 95],none⟩,⟨some 97,.bs 3 1 [.i .i64 0,.i .i64 0,.ns] [(0,3,.t 96)],none⟩] [(1,5),(1,6)],.seq [⟨some 98,.ap 3 (.t 92) (.t 97),none⟩],.seq [⟨some 99,.fa 2 (.t 5),none⟩],.seq [⟨none,.st 1 (.t 99) (.t 98),none⟩]])) (.reg [.seq [⟨some 89,.mv (.t 8),none⟩,⟨some 90,.bi .add (.t 89) (.c (.i .i64 1)),none⟩,⟨some 8,.mv (.t 90),none⟩]])))
def ref03_reader_level.c : PFun := ⟨(.seq (.reg [.seq [⟨some 4,.al [.i .i64 0,.i .i64 0,.ns],none⟩]]) (.seq (.seq (.reg [.seq [⟨some 9,.mv (.t 1),none⟩,⟨some 10,.bi .geq (.t 9) (.c (.i .i64 12)),none⟩,⟨some 11,.mv (.t 10),none⟩,⟨some 12,.mv (.t 0),some (11,false)⟩,⟨some 13,.nc (.t 12),some (11,false)⟩,⟨some 14,.fa 2 (.t 13),some (11,false)⟩,⟨some 15,.ld false 1 (.t 14),some (11,false)⟩,⟨some 16,.bi .geq (.t 15) (.c (.i .i64 100)),some (11,false)⟩,⟨some 17,.pk (.t 11) (.c (.b true)) (.t 16),none⟩]]) (.cond (.t 17) (.seq (.reg [.seq [⟨some 18,.mv (.t 0),none⟩,⟨some 19,.nc (.t 18),none⟩,⟨some 20,.fa 3 (.t 19),none⟩,⟨none,.st 1 (.t 20) (.c (.i .i64 2)),none⟩]]) (.seq (.reg [.seq [⟨some 21,.bd [.i .i64 0,.i .i64 0,.ns] [],none⟩,⟨none,.st 3 (.t 4) (.t 21),none⟩]]) .ret)) .skip)) (.seq (.reg [.seq [⟨some 22,.mv (.t 0),none⟩,⟨some 23,.nc (.t 22),none⟩,⟨some 24,.fa 2 (.t 23),none⟩,⟨some 25,.ld false 1 (.t 24),none⟩,⟨some 26,.bi .add (.t 25) (.c (.i .i64 1)),none⟩,⟨some 27,.nc (.t 22),none⟩,⟨some 28,.fa 2 (.t 27),none⟩,⟨none,.st 1 (.t 28) (.t 26),none⟩]]) (.seq (.reg [.seq [⟨some 29,.mv (.t 0),none⟩,⟨some 30,.ca (.c (.fn (.func ref03_reader_number.n) [] [])) [.t 29],none⟩,⟨some 31,.bd [.i .i64 0,.i .i64 0,.ns] [(0,1,.t 30)],none⟩,⟨some 5,.al [.i .i64 0,.i .i64 0,.ns],none⟩,⟨none,.st 3 (.t 5) (.t 31),none⟩]]) (.seq (.reg [.seq [⟨some 6,.mv (.c (.i .i64 0)),none⟩]]) (.seq (.reg [.seq [⟨some 7,.mv (.c (.i .i64 0)),none⟩]]) (.seq (.seq (.reg [.seq [⟨some 32,.fa 0 (.t 5),none⟩,⟨some 33,.ld false 1 (.t 32),none⟩]]) (.block 0 (.seq (.reg [.seq [⟨some 43,.bi .eql (.t 33) (.c (.i .i64 1)),none⟩,⟨some 42,.mv (.t 43),none⟩]]) (.cond (.t 42) .skip (.seq (.reg [.seq [⟨some 45,.bi .eql (.t 33) (.c (.i .i64 2)),none⟩,⟨some 44,.mv (.t 45),none⟩]]) (.cond (.t 44) (.reg [.seq [⟨some 6,.mv (.c (.i .i64 1)),none⟩]]) (.seq (.seq (.reg [.seq [⟨some 47,.bi .eql (.t 33) (.c (.i .i64 3)),none⟩,⟨some 46,.mv (.t 47),none⟩]]) (.cond (.t 46) .skip (.reg [.seq [⟨some 48,.bi .eql (.t 33) (.c (.i .i64 4)),none⟩,⟨some 46,.mv (.t 48),none⟩]]))) (.cond (.t 46) (.reg [.seq [⟨some 6,.mv (.c (.i .i64 2)),none⟩]]) (.seq (.reg [.seq [⟨some 50,.bi .eql (.t 33) (.c (.i .i64 5)),none⟩,⟨some 49,.mv (.t 50),none⟩]]) (.cond (.t 49) (.reg [.seq [⟨some 7,.mv (.c (.i .i64 5)),none⟩]]) (.seq (.reg [.seq [⟨some 52,.bi .eql (.t 33) (.c (.i .i64 6)),none⟩,⟨some 51,.mv (.t 52),none⟩]]) (.cond (.t 51) (.reg [.seq [⟨some 7,.mv (.c (.i .i64 10)),none⟩]]) (.seq (.reg [.seq [⟨some 34,.mv (.t 0),none⟩,⟨some 35,.nc (.t 34),none⟩,⟨some 36,.fa 3 (.t 35),none⟩,⟨some 37,.ld false 1 (.t 36),none⟩,⟨some 38,.bi .eql (.t 37) (.c (.i .i64 0)),none⟩]]) (.cond (.t 38) (.reg [.seq [⟨some 39,.mv (.t 0),none⟩,⟨some 40,.nc (.t 39),none⟩,⟨some 41,.fa 3 (.t 40),none⟩,⟨none,.st 1 (.t 41) (.c (.i .i64 20)),none⟩]]) .skip)))))))))))))) (.seq (.seq (.reg [.seq [⟨some 53,.mv (.t 0),none⟩,⟨some 54,.nc (.t 53),none⟩,⟨some 55,.fa 3 (.t 54),none⟩,⟨some 56,.ld false 1 (.t 55),none⟩,⟨some 57,.bi .eql (.t 56) (.c (.i .i64 0)),none⟩,⟨some 58,.mv (.t 57),none⟩,⟨some 59,.mv (.t 7),some (58,true)⟩,⟨some 60,.bi .gtr (.t 59) (.c (.i .i64 0)),some (58,true)⟩,⟨some 61,.pk (.t 58) (.t 60) (.c (.b false)),none⟩]]) (.cond (.t 61) (.seq (.reg [.seq [⟨some 62,.mv (.t 0),none⟩,⟨some 63,.ca (.c (.fn (.func ref03_reader_number.n) [] [])) [.t 62],none⟩,⟨some 64,.fa 1 (.t 5),none⟩,⟨none,.st 1 (.t 64) (.t 63),none⟩]]) (.seq (.reg [.seq [⟨some 65,.mv (.t 0),none⟩,⟨some 66,.nc (.t 65),none⟩,⟨some 67,.fa 3 (.t 66),none⟩,⟨some 68,.ld false 1 (.t 67),none⟩,⟨some 69,.bi .eql (.t 68) (.c (.i .i64 0)),none⟩,⟨some 70,.mv (.t 69),none⟩,⟨some 71,.fa 1 (.t 5),some (70,true)⟩,⟨some 72,.ld false 1 (.t 71),some (70,true)⟩,⟨some 73,.mv (.t 7),some (70,true)⟩,⟨some 74,.bi .geq (.t 72) (.t 73),some (70,true)⟩,⟨some 75,.pk (.t 70) (.t 74) (.c (.b false)),none⟩]]) (.cond (.t 75) (.reg [.seq [⟨some 76,.mv (.t 0),none⟩,⟨some 77,.nc (.t 76),none⟩,⟨some 78,.fa 3 (.t 77),none⟩,⟨none,.st 1 (.t 78) (.c (.i .i64 20)),none⟩]]) .skip))) .skip)) (.seq (.seq (.reg [.seq [⟨some 8,.mv (.c (.i .i64 0)),none⟩]]) (.block 1 (.loop ref03_reader_level.b1))) (.seq (.reg [.seq [⟨some 100,.ld true 3 (.t 5),none⟩,⟨none,.st 3 (.t 4) (.t 100),none⟩]]) .ret)))))))))), [.c 4 true 3]⟩
def octet_digits_1.b1 : PCode := (.seq (.seq (.reg [.seq [⟨some 3,.ld false 1 (.t 1),none⟩,⟨some 4,.bi .geq (.t 3) (.c (.i .u64 128)),none⟩]]) (.cond (.t 4) .skip (.exit 0))) (.block 1 (.seq (.seq (.reg [.seq [⟨some 5,.mv (.t 0),none⟩,⟨some 6,.ld false 1 (.t 1),none⟩,⟨some 7,.bi .and (.t 6) (.c (.i .u64 127)),none⟩,⟨some 8,.ci .u8 (.t 7),none⟩,⟨some 9,.ca (.t 5) [.t 8,.c (.b true)],none⟩,⟨some 10,.un .not (.t 9),none⟩]]) (.cond (.t 10) .ret .skip)) (.reg [.seq [⟨some 11,.ld false 1 (.t 1),none⟩,⟨some 12,.bi .shr (.t 11) (.c (.i .u64 7)),none⟩,⟨none,.st 1 (.t 1) (.t 12),none⟩]]))))
def octet_digits_1.c : PFun := ⟨(.seq (.block 0 (.loop octet_digits_1.b1)) (.reg [.seq [⟨some 13,.mv (.t 0),none⟩,⟨some 14,.ld false 1 (.t 1),none⟩,⟨some 15,.ci .u8 (.t 14),none⟩,⟨some 16,.ca (.t 13) [.t 15,.c (.b false)],none⟩]])), []⟩
def lcode_Get.c : PFun := ⟨(.seq (.reg [.seq [⟨some 4,.al [.i .i64 0,.i .i64 0,.ns],none⟩,⟨some 5,.al [.i .i64 0],none⟩,⟨some 6,.al [.i .i64 0],none⟩]]) (.seq (.seq (.reg [.seq [⟨some 8,.mv (.t 1),none⟩,⟨some 9,.bi .lss (.t 8) (.c (.i .i64 0)),none⟩,⟨some 10,.mv (.t 9),none⟩,⟨some 11,.mv (.t 1),some (10,false)⟩,⟨some 12,.mv (.t 0),some (10,false)⟩,⟨some 13,.ln .s (.t 12),some (10,false)⟩,⟨some 14,.bi .gtr (.t 11) (.t 13),some (10,false)⟩,⟨some 15,.pk (.t 10) (.c (.b true)) (.t 14),none⟩]]) (.cond (.t 15) (.seq (.reg [.seq [⟨some 16,.ld true 3 (.t 4),none⟩,⟨none,.st 3 (.t 4) (.t 16),none⟩,⟨none,.st 1 (.t 5) (.c (.i .i64 0)),none⟩,⟨none,.st 1 (.t 6) (.c (.i .i64 1)),none⟩]]) .ret) .skip)) (.seq (.reg [.seq [⟨some 17,.mf (.func lcode_Get_1.n) [] [.t 4,.t 5,.t 6],none⟩,⟨none,.df (.t 17) [],none⟩]]) (.seq (.reg [.seq [⟨some 18,.mv (.t 0),none⟩,⟨some 19,.mv (.t 1),none⟩,⟨some 20,.bd [.s (bs []),.i .i64 0,.i .i64 0] [(0,1,.t 18),(1,1,.t 19)],none⟩,⟨some 21,.bx (.t 20),none⟩,⟨some 7,.mv (.t 21),none⟩]]) (.seq (.reg [.seq [⟨some 22,.mv (.t 7),none⟩,⟨some 23,.ca (.c (.fn (.func lcode_reader_level.n) [] [])) [.t 22,.c (.i .i64 0)],none⟩,⟨none,.st 3 (.t 4) (.t 23),none⟩]]) (.seq (.reg [.any [⟨some 24,.ld true 3 (.t 4),none⟩,⟨some 25,.mv (.t 7),none⟩,⟨some 26,.nc (.t 25),none⟩,⟨some 27,.fa 1 (.t 26),none⟩,⟨some 28,.ld false 1 (.t 27),none⟩,⟨none,.st 3 (.t 4) (.t 24),none⟩] [(4,5)],.seq [⟨none,.st 1 (.t 5) (.t 28),none⟩],.seq [⟨none,.st 1 (.t 6) (.c (.i .i64 0)),none⟩]]) .ret)))))), [.c 4 true 3,.c 5 false 1,.c 6 false 1]⟩
def slices_Repeat_int.b1 : PCode := (.seq (.seq (.reg [.seq [⟨some 34,.mv (.t 8),none⟩,⟨some 35,.mv (.t 7),none⟩,⟨some 36,.ln .l (.t 35),none⟩,⟨some 37,.bi .lss (.t 34) (.t 36),none⟩]]) (.cond (.t 37) .skip (.exit 0))) (.block 1 (.reg [.any [⟨some 38,.mv (.t 8),none⟩,⟨some 39,.mv (.t 7),none⟩,⟨some 40,.mv (.t 8),none⟩,⟨some 41,.sv 1 (.t 39) (some (.t 40)) none none,none⟩,⟨some 42,.mv (.t 7),none⟩,⟨some 43,.mv (.t 8),none⟩,⟨some 44,.sv 1 (.t 42) none (some (.t 43)) none,none⟩,⟨some 45,.cp 1 (.t 41) (.t 44),none⟩] [],.seq [⟨some 46,.bi .add (.t 38) (.t 45),none⟩],.seq [⟨some 8,.mv (.t 46),none⟩]])))
def slices_Repeat_int.c : PFun := ⟨(.seq (.reg [.seq [⟨some 4,.mv (.c .ns),none⟩]]) (.seq (.seq (.reg [.seq [⟨some 9,.mv (.t 1),none⟩,⟨some 10,.bi .lss (.t 9) (.c (.i .i64 0)),none⟩]]) (.cond (.t 10) (.reg [.seq [⟨some 11,.mi 9 (.c (.s (bs [99,97,110,110,111,116,32,98,101,32,110,101,103,97,116,105,118,101]))),none⟩,⟨none,.pa (.t 11),none⟩]]) .skip)) (.seq (.reg [.seq [⟨some 13,.mv (.t 0),none⟩,⟨some 14,.ln .l (.t 13),none⟩,⟨some 15,.ci .u64 (.t 14),none⟩,⟨some 16,.mv (.t 1),none⟩,⟨some 17,.ci .u64 (.t 16),none⟩,⟨some 18,.ca (.c (.fn (.func math_bits_Mul.n) [] [])) [.t 15,.t 17],none⟩,⟨some 12,.mv (.t 18),none⟩,⟨some 19,.ex (.t 12) 0,none⟩,⟨some 20,.ex (.t 12) 1,none⟩,⟨some 5,.mv (.t 19),none⟩,⟨some 6,.mv (.t 20),none⟩]]) (.seq (.seq (.reg [.seq [⟨some 21,.mv (.t 5),none⟩,⟨some 22,.bi .gtr (.t 21) (.c (.i .u64 0)),none⟩,⟨some 23,.mv (.t 22),none⟩,⟨some 24,.mv (.t 6),some (23,false)⟩,⟨some 25,.bi .gtr (.t 24) (.c (.i .u64 9223372036854775807)),some (23,false)⟩,⟨some 26,.pk (.t 23) (.c (.b true)) (.t 25),none⟩]]) (.cond (.t 26) (.reg [.seq [⟨some 27,.mi 9 (.c (.s (bs [116,104,101,32,114,101,115,117,108,116,32,111,102,32,40,108,101,110,40,120,41,32,42,32,99,111,117,110,116,41,32,111,118,101,114,102,108,111,119,115]))),none⟩,⟨none,.pa (.t 27),none⟩]]) .skip)) (.seq (.reg [.seq [⟨some 28,.mv (.t 6),none⟩,⟨some 29,.ci .i64 (.t 28),none⟩,⟨some 30,.mk 1 [.i .i64 0] (.t 29) (.t 29),none⟩,⟨some 7,.mv (.t 30),none⟩]]) (.seq (.reg [.seq [⟨some 31,.mv (.t 7),none⟩,⟨some 32,.mv (.t 0),none⟩,⟨some 33,.cp 1 (.t 31) (.t 32),none⟩,⟨some 8,.mv (.t 33),none⟩]]) (.seq (.block 0 (.loop slices_Repeat_int.b1)) (.seq (.reg [.seq [⟨some 47,.mv (.t 7),none⟩,⟨some 4,.mv (.t 47),none⟩]]) .ret)))))))), [.t 4]⟩
def slices_IndexFunc_Clause.b1 : PCode := (.seq (.reg [.seq [⟨some 9,.bi .lss (.t 8) (.t 7),none⟩]]) (.seq (.cond (.t 9) .skip (.exit 0)) (.seq (.block 1 (.seq (.reg [.seq [⟨some 10,.mv (.t 8),none⟩,⟨some 5,.mv (.t 10),none⟩]]) (.seq (.reg [.seq [⟨some 11,.mv (.t 1),none⟩,⟨some 12,.mv (.t 0),none⟩,⟨some 13,.mv (.t 5),none⟩,⟨some 14,.ia 3 (.t 12) (.t 13),none⟩,⟨some 15,.ld true 3 (.t 14),none⟩,⟨some 16,.ca (.t 11) [.t 15],none⟩]]) (.cond (.t 16) (.seq (.reg [.seq [⟨some 17,.mv (.t 5),none⟩,⟨some 4,.mv (.t 17),none⟩]]) .ret) .skip)))) (.reg [.seq [⟨some 18,.bi .add (.t 8) (.c (.i .i64 1)),none⟩,⟨some 8,.mv (.t 18),none⟩]]))))
def slices_IndexFunc_Clause.c : PFun := ⟨(.seq (.reg [.seq [⟨some 4,.mv (.c (.i .i64 0)),none⟩]]) (.seq (.seq (.reg [.seq [⟨some 6,.mv (.t 0),none⟩,⟨some 7,.ln .l (.t 6),none⟩,⟨some 8,.mv (.c (.i .i64 0)),none⟩]]) (.block 0 (.loop slices_IndexFunc_Clause.b1))) (.seq (.reg [.seq [⟨some 4,.mv (.c (.i .i64 (-1))),none⟩]]) .ret))), [.t 4]⟩
def slices_Concat_Atom.b1 : PCode := (.seq (.reg [.seq [⟨some 12,.bi .lss (.t 11) (.t 10),none⟩]]) (.seq (.cond (.t 12) .skip (.exit 0)) (.seq (.block 1 (.seq (.reg [.seq [⟨some 13,.ia 1 (.t 9) (.t 11),none⟩,⟨some 14,.ld false 1 (.t 13),none⟩,⟨some 5,.mv (.t 14),none⟩]]) (.seq (.reg [.seq [⟨some 15,.mv (.t 3),none⟩,⟨some 16,.mv (.t 5),none⟩,⟨some 17,.ln .l (.t 16),none⟩,⟨some 18,.bi .add (.t 15) (.t 17),none⟩,⟨some 3,.mv (.t 18),none⟩]]) (.seq (.reg [.seq [⟨some 19,.mv (.t 3),none⟩,⟨some 20,.bi .lss (.t 19) (.c (.i .i64 0)),none⟩]]) (.cond (.t 20) (.reg [.seq [⟨some 21,.mi 9 (.c (.s (bs [108,101,110,32,111,117,116,32,111,102,32,114,97,110,103,101]))),none⟩,⟨none,.pa (.t 21),none⟩]]) .skip))))) (.reg [.seq [⟨some 22,.bi .add (.t 11) (.c (.i .i64 1)),none⟩,⟨some 11,.mv (.t 22),none⟩]]))))
def slices_Concat_Atom.b2 : PCode := (.seq (.reg [.seq [⟨some 28,.bi .lss (.t 27) (.t 26),none⟩]]) (.seq (.cond (.t 28) .skip (.exit 2)) (.seq (.block 3 (.seq (.reg [.seq [⟨some 29,.ia 1 (.t 25) (.t 27),none⟩,⟨some 30,.ld false 1 (.t 29),none⟩,⟨some 8,.mv (.t 30),none⟩]]) (.reg [.seq [⟨some 31,.mv (.t 6),none⟩,⟨some 32,.mv (.t 8),none⟩,⟨some 33,.ap 2 (.t 31) (.t 32),none⟩,⟨some 6,.mv (.t 33),none⟩]]))) (.reg [.seq [⟨some 34,.bi .add (.t 27) (.c (.i .i64 1)),none⟩,⟨some 27,.mv (.t 34),none⟩]]))))
def slices_Concat_Atom.c : PFun := ⟨(.seq (.reg [.seq [⟨some 2,.mv (.c .ns),none⟩]]) (.seq (.reg [.seq [⟨some 3,.mv (.c (.i .i64 0)),none⟩]]) (.seq (.seq (.reg [.seq [⟨some 9,.mv (.t 0),none⟩,⟨some 10,.ln .l (.t 9),none⟩,⟨some 11,.mv (.c (.i .i64 0)),none⟩]]) (.block 0 (.loop slices_Concat_Atom.b1))) (.seq (.reg [.seq [⟨some 23,.mv (.t 3),none⟩,⟨some 24,.ca (.c (.fn (.func slices_Grow_Atom.n) [] [])) [.c .ns,.t 23],none⟩,⟨some 6,.mv (.t 24),none⟩]]) (.seq (.seq (.reg [.seq [⟨some 25,.mv (.t 0),none⟩,⟨some 26,.ln .l (.t 25),none⟩,⟨some 27,.mv (.c (.i .i64 0)),none⟩]]) (.block 2 (.loop slices_Concat_Atom.b2))) (.seq (.reg [.seq [⟨some 35,.mv (.t 6),none⟩,⟨some 2,.mv (.t 35),none⟩]]) .ret)))))), [.t 2]⟩
def ref03_reader_number.c : PFun := ⟨(.seq (.reg [.seq [⟨some 2,.mv (.c (.i .i64 0)),none⟩]]) (.seq (.reg [.any [⟨some 7,.mv (.t 0),none⟩,⟨some 8,.nc (.t 7),none⟩,⟨some 9,.fa 0 (.t 8),none⟩,⟨some 10,.ld false 1 (.t 9),none⟩,⟨some 11,.mv (.t 0),none⟩,⟨some 12,.nc (.t 11),none⟩,⟨some 13,.fa 1 (.t 12),none⟩,⟨some 14,.ld false 1 (.t 13),none⟩] [],.seq [⟨some 15,.ca (.c (.fn (.func ref01_Get.n) [] [])) [.t 10,.t 14],none⟩],.seq [⟨some 6,.mv (.t 15),none⟩],.any [⟨some 16,.ex (.t 6) 0,none⟩,⟨some 17,.ex (.t 6) 1,none⟩,⟨some 18,.ex (.t 6) 2,none⟩,⟨some 3,.mv (.t 16),none⟩,⟨some 4,.mv (.t 17),none⟩] [],.seq [⟨some 5,.mv (.t 18),none⟩]]) (.seq (.seq (.reg [.seq [⟨some 19,.mv (.t 5),none⟩,⟨some 20,.bi .neq (.t 19) (.c (.i .i64 0)),none⟩]]) (.cond (.t 20) (.seq (.reg [.seq [⟨some 21,.mv (.t 0),none⟩,⟨some 22,.mv (.t 5),none⟩,⟨some 23,.nc (.t 21),none⟩,⟨some 24,.fa 3 (.t 23),none⟩,⟨none,.st 1 (.t 24) (.t 22),none⟩]]) (.seq (.reg [.seq [⟨some 2,.mv (.c (.i .i64 0)),none⟩]]) .ret)) .skip)) (.seq (.reg [.seq [⟨some 25,.mv (.t 0),none⟩,⟨some 26,.mv (.t 4),none⟩,⟨some 27,.nc (.t 25),none⟩,⟨some 28,.fa 1 (.t 27),none⟩,⟨none,.st 1 (.t 28) (.t 26),none⟩]]) (.seq (.reg [.seq [⟨some 29,.mv (.t 3),none⟩,⟨some 2,.mv (.t 29),none⟩]]) .ret))))), [.t 2]⟩
def lcode_Get_1.c : PFun := ⟨(.seq (.reg [.seq [⟨some 6,.rc,none⟩,⟨some 7,.ta 230 (.ag [.i .i64 0]) (.t 6) true,none⟩,⟨some 5,.mv (.t 7),none⟩,⟨some 8,.ex (.t 5) 0,none⟩,⟨some 9,.ex (.t 5) 1,none⟩,⟨some 3,.al [.i .i64 0],none⟩,⟨none,.st 1 (.t 3) (.t 8),none⟩,⟨some 4,.mv (.t 9),none⟩]]) (.seq (.reg [.seq [⟨some 10,.mv (.t 4),none⟩]]) (.cond (.t 10) (.reg [.any [⟨some 11,.bd [.i .i64 0,.i .i64 0,.ns] [],none⟩,⟨some 12,.fa 0 (.t 3),none⟩,⟨some 13,.ld false 1 (.t 12),none⟩,⟨none,.st 3 (.t 0) (.t 11),none⟩,⟨none,.st 1 (.t 1) (.c (.i .i64 0)),none⟩] [(2,3),(2,4)],.seq [⟨none,.st 1 (.t 2) (.t 13),none⟩]]) .skip))), []⟩
def lcode_reader_level.b1 : PCode := (.seq (.reg [.seq [⟨some 56,.bi .lss (.t 55) (.t 54),none⟩]]) (.seq (.cond (.t 56) .skip (.exit 6)) (.seq (.block 7 (.reg [.any [⟨some 57,.fa 2 (.t 5),none⟩,⟨some 58,.ld false 1 (.t 57),none⟩,⟨some 59,.mv (.t 0),none⟩,⟨some 60,.mv (.t 1),none⟩,⟨some 61,.bi .add (.t 60) (.c (.i .i64 1)),none⟩,⟨some 62,.ca (.c (.fn (.func lcode_reader_level.n) [] [])) [.t 59,.t 61],none⟩,⟨some 63,.bs 3 1 [.i .i64 0,.i .i64 0,.ns] [(0,3,.t 62)],none⟩] [(1,5),(1,6)],.seq [⟨some 64,.ap 3 (.t 58) (.t 63),none⟩],.seq [⟨some 65,.fa 2 (.t 5),none⟩],.seq [⟨none,.st 1 (.t 65) (.t 64),none⟩]])) (.reg [.seq [⟨some 66,.bi .add (.t 55) (.c (.i .i64 1)),none⟩,⟨some 55,.mv (.t 66),none⟩]]))))
def lcode_reader_level.c : PFun := ⟨(.seq (.reg [.seq [⟨some 4,.al [.i .i64 0,.i .i64 0,.ns],none⟩]]) (.seq (.reg [.seq [⟨some 7,.mv (.t 1),none⟩,⟨some 8,.bi .lss (.t 7) (.c (.i .i64 12)),none⟩,⟨some 9,.mv (.t 8),none⟩,⟨some 10,.mv (.t 0),some (9,true)⟩,⟨some 11,.nc (.t 10),some (9,true)⟩,⟨some 12,.fa 2 (.t 11),some (9,true)⟩,⟨some 13,.ld false 1 (.t 12),some (9,true)⟩,⟨some 14,.bi .lss (.t 13) (.c (.i .i64 100)),some (9,true)⟩,⟨some 15,.pk (.t 9) (.t 14) (.c (.b false)),none⟩,⟨some 16,.ca (.c (.fn (.func lcode_want.n) [] [])) [.t 15,.c (.i .i64 2)],none⟩]]) (.seq (.reg [.seq [⟨some 17,.mv (.t 0),none⟩,⟨some 18,.nc (.t 17),none⟩,⟨some 19,.fa 2 (.t 18),none⟩,⟨some 20,.ld false 1 (.t 19),none⟩,⟨some 21,.bi .add (.t 20) (.c (.i .i64 1)),none⟩,⟨some 22,.nc (.t 17),none⟩,⟨some 23,.fa 2 (.t 22),none⟩,⟨none,.st 1 (.t 23) (.t 21),none⟩]]) (.seq (.reg [.seq [⟨some 24,.mv (.t 0),none⟩,⟨some 25,.ca (.c (.fn (.func lcode_reader_number.n) [] [])) [.t 24],none⟩,⟨some 26,.bd [.i .i64 0,.i .i64 0,.ns] [(0,1,.t 25)],none⟩,⟨some 5,.al [.i .i64 0,.i .i64 0,.ns],none⟩,⟨none,.st 3 (.t 5) (.t 26),none⟩]]) (.seq (.reg [.seq [⟨some 6,.mv (.c (.i .i64 0)),none⟩]]) (.seq (.seq (.reg [.seq [⟨some 27,.fa 0 (.t 5),none⟩,⟨some 28,.ld false 1 (.t 27),none⟩]]) (.block 0 (.seq (.block 5 (.seq (.block 4 (.seq (.block 3 (.seq (.block 2 (.seq (.block 1 (.seq (.seq (.seq (.reg [.seq [⟨some 30,.bi .eql (.t 28) (.c (.i .i64 1)),none⟩,⟨some 29,.mv (.t 30),none⟩]]) (.cond (.t 29) (.exit 1) .skip)) (.seq (.seq (.seq (.reg [.seq [⟨some 32,.bi .eql (.t 28) (.c (.i .i64 5)),none⟩,⟨some 31,.mv (.t 32),none⟩]]) (.cond (.t 31) .skip (.reg [.seq [⟨some 33,.bi .eql (.t 28) (.c (.i .i64 6)),none⟩,⟨some 31,.mv (.t 33),none⟩]]))) (.cond (.t 31) (.exit 2) .skip)) (.seq (.seq (.seq (.reg [.seq [⟨some 35,.bi .eql (.t 28) (.c (.i .i64 3)),none⟩,⟨some 34,.mv (.t 35),none⟩]]) (.cond (.t 34) .skip (.reg [.seq [⟨some 36,.bi .eql (.t 28) (.c (.i .i64 4)),none⟩,⟨some 34,.mv (.t 36),none⟩]]))) (.cond (.t 34) (.exit 3) .skip)) (.seq (.reg [.seq [⟨some 38,.bi .eql (.t 28) (.c (.i .i64 2)),none⟩,⟨some 37,.mv (.t 38),none⟩]]) (.cond (.t 37) (.exit 4) .skip))))) (.exit 5))) (.exit 0))) (.seq (.seq (.reg [.seq [⟨some 39,.mv (.t 0),none⟩,⟨some 40,.ca (.c (.fn (.func lcode_reader_number.n) [] [])) [.t 39],none⟩,⟨some 41,.fa 1 (.t 5),none⟩,⟨none,.st 1 (.t 41) (.t 40),none⟩]]) (.reg [.any [⟨some 42,.fa 1 (.t 5),none⟩,⟨some 43,.ld false 1 (.t 42),none⟩,⟨some 44,.fa 0 (.t 5),none⟩,⟨some 45,.ld false 1 (.t 44),none⟩,⟨some 46,.ca (.c (.fn (.func lcode_named.n) [] [])) [.t 45],none⟩] [(1,4)],.seq [⟨some 47,.bi .lss (.t 43) (.t 46),none⟩],.seq [⟨some 48,.ca (.c (.fn (.func lcode_want.n) [] [])) [.t 47,.c (.i .i64 20)],none⟩]])) (.exit 0)))) (.reg [.seq [⟨some 49,.mv (.t 6),none⟩,⟨some 50,.bi .add (.t 49) (.c (.i .i64 1)),none⟩,⟨some 6,.mv (.t 50),none⟩]]))) (.seq (.reg [.seq [⟨some 51,.mv (.t 6),none⟩,⟨some 52,.bi .add (.t 51) (.c (.i .i64 1)),none⟩,⟨some 6,.mv (.t 52),none⟩]]) (.exit 0)))) (.seq (.reg [.seq [⟨some 53,.ca (.c (.fn (.func lcode_want.n) [] [])) [.c (.b false),.c (.i .i64 20)],none⟩]]) (.exit 0))))) (.seq (.seq (.reg [.seq [⟨some 54,.mv (.t 6),none⟩,⟨some 55,.mv (.c (.i .i64 0)),none⟩]]) (.block 6 (.loop lcode_reader_level.b1))) (.seq (.reg [.seq [⟨some 67,.ld true 3 (.t 5),none⟩,⟨none,.st 3 (.t 4) (.t 67),none⟩]]) .ret)))))))), [.c 4 true 3]⟩
def math_bits_Mul.c : PFun := ⟨(.seq (.reg [.seq [⟨some 4,.mv (.c (.i .u64 0)),none⟩,⟨some 5,.mv (.c (.i .u64 0)),none⟩]]) (.seq (.cond (.c (.b false)) (.seq (.reg [.seq [⟨some 11,.mv (.t 0),none⟩,⟨some 12,.ci .u32 (.t 11),none⟩,⟨some 13,.mv (.t 1),none⟩,⟨some 14,.ci .u32 (.t 13),none⟩,⟨some 15,.ca (.c (.fn (.func math_bits_Mul32.n) [] [])) [.t 12,.t 14],none⟩,⟨some 10,.mv (.t 15),none⟩,⟨some 16,.ex (.t 10) 0,none⟩,⟨some 17,.ex (.t 10) 1,none⟩,⟨some 6,.mv (.t 16),none⟩,⟨some 7,.mv (.t 17),none⟩]]) (.seq (.reg [.seq [⟨some 18,.mv (.t 6),none⟩,⟨some 19,.ci .u64 (.t 18),none⟩,⟨some 20,.mv (.t 7),none⟩,⟨some 21,.ci .u64 (.t 20),none⟩,⟨some 4,.mv (.t 19),none⟩,⟨some 5,.mv (.t 21),none⟩]]) .ret)) .skip) (.seq (.reg [.seq [⟨some 23,.mv (.t 0),none⟩,⟨some 24,.mv (.t 1),none⟩,⟨some 25,.ca (.c (.fn (.func math_bits_Mul64.n) [] [])) [.t 23,.t 24],none⟩,⟨some 22,.mv (.t 25),none⟩,⟨some 26,.ex (.t 22) 0,none⟩,⟨some 27,.ex (.t 22) 1,none⟩,⟨some 8,.mv (.t 26),none⟩,⟨some 9,.mv (.t 27),none⟩]]) (.seq (.reg [.seq [⟨some 28,.mv (.t 8),none⟩,⟨some 29,.mv (.t 9),none⟩,⟨some 4,.mv (.t 28),none⟩,⟨some 5,.mv (.t 29),none⟩]]) .ret)))), [.t 4,.t 5]⟩
def slices_Grow_Atom.c : PFun := ⟨(.seq (.reg [.seq [⟨some 4,.mv (.c .ns),none⟩]]) (.seq (.seq (.reg [.seq [⟨some 5,.mv (.t 1),none⟩,⟨some 6,.bi .lss (.t 5) (.c (.i .i64 0)),none⟩]]) (.cond (.t 6) (.reg [.seq [⟨some 7,.mi 9 (.c (.s (bs [99,97,110,110,111,116,32,98,101,32,110,101,103,97,116,105,118,101]))),none⟩,⟨none,.pa (.t 7),none⟩]]) .skip)) (.seq (.seq (.reg [.seq [⟨some 8,.mv (.t 1),none⟩,⟨some 9,.mv (.t 0),none⟩,⟨some 10,.ln .c (.t 9),none⟩,⟨some 11,.mv (.t 0),none⟩,⟨some 12,.ln .l (.t 11),none⟩,⟨some 13,.bi .sub (.t 10) (.t 12),none⟩,⟨some 14,.bi .sub (.t 8) (.t 13),none⟩,⟨some 1,.mv (.t 14),none⟩]]) (.seq (.reg [.seq [⟨some 15,.mv (.t 1),none⟩,⟨some 16,.bi .gtr (.t 15) (.c (.i .i64 0)),none⟩]]) (.cond (.t 16) (.reg [.seq [⟨some 17,.mv (.t 0),none⟩,⟨some 18,.mv (.t 0),none⟩,⟨some 19,.ln .c (.t 18),none⟩,⟨some 20,.sv 2 (.t 17) none (some (.t 19)) none,none⟩,⟨some 21,.mv (.t 1),none⟩,⟨some 22,.an 2 [.i .i64 0,.i .i64 0] (.t 20) (.t 21),none⟩,⟨some 23,.mv (.t 0),none⟩,⟨some 24,.ln .l (.t 23),none⟩,⟨some 25,.sv 2 (.t 22) none (some (.t 24)) none,none⟩,⟨some 0,.mv (.t 25),none⟩]]) .skip))) (.seq (.reg [.seq [⟨some 26,.mv (.t 0),none⟩,⟨some 4,.mv (.t 26),none⟩]]) .ret)))), [.t 4]⟩
def lcode_want.c : PFun := ⟨(.seq (.reg [.seq [⟨some 4,.mv (.t 0),none⟩,⟨some 5,.un .not (.t 4),none⟩]]) (.cond (.t 5) (.reg [.seq [⟨some 6,.mv (.t 1),none⟩,⟨some 7,.bd [.i .i64 0] [(0,1,.t 6)],none⟩,⟨some 8,.mi 230 (.t 7),none⟩,⟨none,.pa (.t 8),none⟩]]) .skip)), []⟩
def lcode_reader_number.c : PFun := ⟨(.seq (.reg [.seq [⟨some 2,.mv (.c (.i .i64 0)),none⟩]]) (.seq (.reg [.any [⟨some 7,.mv (.t 0),none⟩,⟨some 8,.nc (.t 7),none⟩,⟨some 9,.fa 0 (.t 8),none⟩,⟨some 10,.ld false 1 (.t 9),none⟩,⟨some 11,.mv (.t 0),none⟩,⟨some 12,.nc (.t 11),none⟩,⟨some 13,.fa 1 (.t 12),none⟩,⟨some 14,.ld false 1 (.t 13),none⟩] [],.seq [⟨some 15,.ca (.c (.fn (.func octet_Get.n) [] [])) [.t 10,.t 14],none⟩],.seq [⟨some 6,.mv (.t 15),none⟩],.any [⟨some 16,.ex (.t 6) 0,none⟩,⟨some 17,.ex (.t 6) 1,none⟩,⟨some 18,.ex (.t 6) 2,none⟩,⟨some 3,.mv (.t 16),none⟩,⟨some 4,.mv (.t 17),none⟩] [],.seq [⟨some 5,.mv (.t 18),none⟩]]) (.seq (.reg [.seq [⟨some 19,.mv (.t 5),none⟩,⟨some 20,.bi .eql (.t 19) (.c (.i .i64 0)),none⟩,⟨some 21,.mv (.t 5),none⟩,⟨some 22,.ca (.c (.fn (.func lcode_want.n) [] [])) [.t 20,.t 21],none⟩]]) (.seq (.reg [.seq [⟨some 23,.mv (.t 0),none⟩,⟨some 24,.mv (.t 4),none⟩,⟨some 25,.nc (.t 23),none⟩,⟨some 26,.fa 1 (.t 25),none⟩,⟨none,.st 1 (.t 26) (.t 24),none⟩]]) (.seq (.reg [.seq [⟨some 27,.mv (.t 3),none⟩,⟨some 2,.mv (.t 27),none⟩]]) .ret))))), [.t 2]⟩
def math_bits_Mul32.c : PFun := ⟨(.seq (.reg [.seq [⟨some 4,.mv (.c (.i .u32 0)),none⟩,⟨some 5,.mv (.c (.i .u32 0)),none⟩]]) (.seq (.reg [.seq [⟨some 7,.mv (.t 0),none⟩,⟨some 8,.ci .u64 (.t 7),none⟩,⟨some 9,.mv (.t 1),none⟩,⟨some 10,.ci .u64 (.t 9),none⟩,⟨some 11,.bi .mul (.t 8) (.t 10),none⟩,⟨some 6,.mv (.t 11),none⟩]]) (.seq (.reg [.seq [⟨some 12,.mv (.t 6),none⟩,⟨some 13,.bi .shr (.t 12) (.c (.i .u64 32)),none⟩,⟨some 14,.ci .u32 (.t 13),none⟩,⟨some 15,.mv (.t 6),none⟩,⟨some 16,.ci .u32 (.t 15),none⟩,⟨some 4,.mv (.t 14),none⟩,⟨some 5,.mv (.t 16),none⟩]]) .ret))), [.t 4,.t 5]⟩
def math_bits_Mul64.c : PFun := ⟨(.seq (.reg [.seq [⟨some 4,.mv (.c (.i .u64 0)),none⟩,⟨some 5,.mv (.c (.i .u64 0)),none⟩]]) (.seq (.reg [.seq [⟨some 14,.mv (.t 0),none⟩,⟨some 15,.bi .and (.t 14) (.c (.i .u64 4294967295)),none⟩,⟨some 6,.mv (.t 15),none⟩]]) (.seq (.reg [.seq [⟨some 16,.mv (.t 0),none⟩,⟨some 17,.bi .shr (.t 16) (.c (.i .u64 32)),none⟩,⟨some 7,.mv (.t 17),none⟩]]) (.seq (.reg [.seq [⟨some 18,.mv (.t 1),none⟩,⟨some 19,.bi .and (.t 18) (.c (.i .u64 4294967295)),none⟩,⟨some 8,.mv (.t 19),none⟩]]) (.seq (.reg [.seq [⟨some 20,.mv (.t 1),none⟩,⟨some 21,.bi .shr (.t 20) (.c (.i .u64 32)),none⟩,⟨some 9,.mv (.t 21),none⟩]]) (.seq (.reg [.seq [⟨some 22,.mv (.t 6),none⟩,⟨some 23,.mv (.t 8),none⟩,⟨some 24,.bi .mul (.t 22) (.t 23),none⟩,⟨some 10,.mv (.t 24),none⟩]]) (.seq (.reg [.seq [⟨some 25,.mv (.t 7),none⟩,⟨some 26,.mv (.t 8),none⟩,⟨some 27,.bi .mul (.t 25) (.t 26),none⟩,⟨some 28,.mv (.t 10),none⟩,⟨some 29,.bi .shr (.t 28) (.c (.i .u64 32)),none⟩,⟨some 30,.bi .add (.t 27) (.t 29),none⟩,⟨some 11,.mv (.t 30),none⟩]]) (.seq (.reg [.seq [⟨some 31,.mv (.t 11),none⟩,⟨some 32,.bi .and (.t 31) (.c (.i .u64 4294967295)),none⟩,⟨some 12,.mv (.t 32),none⟩]]) (.seq (.reg [.seq [⟨some 33,.mv (.t 11),none⟩,⟨some 34,.bi .shr (.t 33) (.c (.i .u64 32)),none⟩,⟨some 13,.mv (.t 34),none⟩]]) (.seq (.reg [.seq [⟨some 35,.mv (.t 12),none⟩,⟨some 36,.mv (.t 6),none⟩,⟨some 37,.mv (.t 9),none⟩,⟨some 38,.bi .mul (.t 36) (.t 37),none⟩,⟨some 39,.bi .add (.t 35) (.t 38),none⟩,⟨some 12,.mv (.t 39),none⟩]]) (.seq (.reg [.seq [⟨some 40,.mv (.t 7),none⟩,⟨some 41,.mv (.t 9),none⟩,⟨some 42,.bi .mul (.t 40) (.t 41),none⟩,⟨some 43,.mv (.t 13),none⟩,⟨some 44,.bi .add (.t 42) (.t 43),none⟩,⟨some 45,.mv (.t 12),none⟩,⟨some 46,.bi .shr (.t 45) (.c (.i .u64 32)),none⟩,⟨some 47,.bi .add (.t 44) (.t 46),none⟩,⟨some 4,.mv (.t 47),none⟩]]) (.seq (.reg [.seq [⟨some 48,.mv (.t 0),none⟩,⟨some 49,.mv (.t 1),none⟩,⟨some 50,.bi .mul (.t 48) (.t 49),none⟩,⟨some 5,.mv (.t 50),none⟩]]) .ret)))))))))))), [.t 4,.t 5]⟩
def slices_MinFunc_Atom.b1 : PCode := (.seq (.seq (.reg [.seq [⟨some 14,.mv (.t 6),none⟩,⟨some 15,.mv (.t 0),none⟩,⟨some 16,.ln .l (.t 15),none⟩,⟨some 17,.bi .lss (.t 14) (.t 16),none⟩]]) (.cond (.t 17) .skip (.exit 0))) (.seq (.block 1 (.seq (.reg [.any [⟨some 20,.mv (.t 1),none⟩,⟨some 21,.mv (.t 0),none⟩,⟨some 22,.mv (.t 6),none⟩,⟨some 23,.ia 2 (.t 21) (.t 22),none⟩,⟨some 24,.ld true 2 (.t 23),none⟩,⟨some 25,.ld true 2 (.t 5),none⟩] [],.seq [⟨some 26,.ca (.t 20) [.t 24,.t 25],none⟩],.seq [⟨some 27,.bi .lss (.t 26) (.c (.i .i64 0)),none⟩]]) (.cond (.t 27) (.reg [.seq [⟨some 28,.mv (.t 0),none⟩,⟨some 29,.mv (.t 6),none⟩,⟨some 30,.ia 2 (.t 28) (.t 29),none⟩,⟨some 31,.ld true 2 (.t 30),none⟩,⟨none,.st 2 (.t 5) (.t 31),none⟩]]) .skip))) (.reg [.seq [⟨some 18,.mv (.t 6),none⟩,⟨some 19,.bi .add (.t 18) (.c (.i .i64 1)),none⟩,⟨some 6,.mv (.t 19),none⟩]])))
def slices_MinFunc_Atom.c : PFun := ⟨(.seq (.reg [.seq [⟨some 4,.al [.i .i64 0,.i .i64 0],none⟩]]) (.seq (.seq (.reg [.seq [⟨some 7,.mv (.t 0),none⟩,⟨some 8,.ln .l (.t 7),none⟩,⟨some 9,.bi .lss (.t 8) (.c (.i .i64 1)),none⟩]]) (.cond (.t 9) (.reg [.seq [⟨some 10,.mi 9 (.c (.s (bs [115,108,105,99,101,115,46,77,105,110,70,117,110,99,58,32,101,109,112,116,121,32,108,105,115,116]))),none⟩,⟨none,.pa (.t 10),none⟩]]) .skip)) (.seq (.reg [.seq [⟨some 11,.mv (.t 0),none⟩,⟨some 12,.ia 2 (.t 11) (.c (.i .i64 0)),none⟩,⟨some 13,.ld true 2 (.t 12),none⟩,⟨some 5,.al [.i .i64 0,.i .i64 0],none⟩,⟨none,.st 2 (.t 5) (.t 13),none⟩]]) (.seq (.seq (.reg [.seq [⟨some 6,.mv (.c (.i .i64 1)),none⟩]]) (.block 0 (.loop slices_MinFunc_Atom.b1))) (.seq (.reg [.seq [⟨some 32,.ld true 2 (.t 5),none⟩,⟨none,.st 2 (.t 4) (.t 32),none⟩]]) .ret))))), [.c 4 true 2]⟩

def ctx : Ctx where
  fns := fun f => match f with
    | 3 => some law14_TcodeGet.c
    | 4 => some law14_TcodeSmall.c
    | 5 => some law14_TcodePut.c
    | 6 => some law14_TcodeDeep.c
    | 7 => some law14_TcodeBack.c
    | 8 => some law14_TcodeOnce.c
    | 15 => some law14_get.c
    | 16 => some ref13_Parts.c
    | 17 => some ref02_Nodes.c
    | 18 => some law13_Made.c
    | 19 => some tcode_Put.c
    | 20 => some ref14_Put.c
    | 21 => some law14_full.c
    | 22 => some tcode_Get.c
    | 23 => some ref13_Same.c
    | 26 => some law02_Maker_Level.c
    | 29 => some ref02_Eval.c
    | 33 => some law13_Bind.c
    | 34 => some law13_Sort.c
    | 35 => some law13_Var.c
    | 36 => some ref14_Get.c
    | 37 => some law13_Term.c
    | 38 => some term_Right.c
    | 39 => some tcode_writer_term.c
    | 40 => some strings_Builder_String.c
    | 41 => some ref13_Shape.c
    | 42 => some ref14_text.c
    | 43 => some tcode_Get_1.c
    | 44 => some tcode_reader_term.c
    | 45 => some ref02_Same.c
    | 51 => some law02_Maker_Pick.c
    | 52 => some level_Right.c
    | 57 => some ref02_Right.c
    | 58 => some ref02_naturals.c
    | 59 => some ref02_Value.c
    | 65 => some ref14_reader_term.c
    | 66 => some term_room_fits.c
    | 67 => some tcode_writer_number.c
    | 68 => some lcode_Put.c
    | 69 => some strings_Builder_WriteString.c
    | 70 => some ref13_Right.c
    | 71 => some ref14_num.c
    | 72 => some ref03_Put.c
    | 73 => some tcode_reader_fail.c
    | 74 => some tcode_reader_number.c
    | 75 => some tcode_readers.c
    | 77 => some slices_ContainsFunc_Con.c
    | 84 => some level_nodes.c
    | 85 => some level_right.c
    | 88 => some slices_Collect_Clause.c
    | 91 => some ref02_right.c
    | 93 => some ref14_reader_number.c
    | 94 => some ref14_reader_level.c
    | 95 => some term_parts.c
    | 96 => some term_room_right.c
    | 97 => some octet_Put.c
    | 98 => some lcode_write.c
    | 99 => some strings_Builder_copyCheck.c
    | 100 => some ref13_right.c
    | 101 => some ref01_Put.c
    | 102 => some ref03_text.c
    | 103 => some octet_Get.c
    | 104 => some tcode_reader_variable.c
    | 105 => some tcode_reader_sort.c
    | 106 => some tcode_reader_constant.c
    | 107 => some tcode_reader_apply.c
    | 108 => some tcode_reader_bind.c
    | 109 => some tcode_reader_let.c
    | 110 => some slices_IndexFunc_Con.c
    | 115 => some level_kinds.c
    | 116 => some level_right_1.c
    | 117 => some level_named.c
    | 118 => some slices_ContainsFunc_Level.c
    | 122 => some slices_AppendSeq_Clause.c
    | 127 => some ref02_kids.c
    | 128 => some ref01_Get.c
    | 129 => some ref03_Get.c
    | 130 => some term_room_right_1.c
    | 131 => some term_shapes.c
    | 132 => some term_room_named.c
    | 133 => some term_below.c
    | 134 => some octet_digits.c
    | 135 => some lcode_write_1.c
    | 136 => some lcode_named.c
    | 138 => some ref13_kids.c
    | 139 => some ref13_named.c
    | 140 => some ref13_binds.c
    | 141 => some tcode_reader_levels.c
    | 142 => some tcode_reader_kids.c
    | 150 => some level_kinds_1.c
    | 151 => some level_kinds_2.c
    | 152 => some level_kinds_3.c
    | 153 => some level_kinds_4.c
    | 154 => some level_imax.c
    | 155 => some level_kinds_5.c
    | 156 => some level_kinds_6.c
    | 157 => some slices_IndexFunc_Level.c
    | 161 => some slices_Max_int.c
    | 163 => some slices_ContainsFunc_Clause.c
    | 169 => some ref03_reader_level.c
    | 170 => some octet_digits_1.c
    | 171 => some lcode_Get.c
    | 172 => some slices_Repeat_int.c
    | 173 => some slices_IndexFunc_Clause.c
    | 175 => some slices_Concat_Atom.c
    | 178 => some ref03_reader_number.c
    | 179 => some lcode_Get_1.c
    | 180 => some lcode_reader_level.c
    | 181 => some math_bits_Mul.c
    | 182 => some slices_Grow_Atom.c
    | 184 => some lcode_want.c
    | 185 => some lcode_reader_number.c
    | 186 => some math_bits_Mul32.c
    | 187 => some math_bits_Mul64.c
    | 189 => some slices_MinFunc_Atom.c
    | _ => none
  opn := fun f => match f with
    | 134 => true
    | 26 => true
    | 51 => true
    | 180 => true
    | 185 => true
    | 184 => true
    | 98 => true
    | 135 => true
    | 69 => true
    | 40 => true
    | 99 => true
    | 169 => true
    | 178 => true
    | 39 => true
    | 67 => true
    | 44 => true
    | 74 => true
    | 73 => true
    | 141 => true
    | 142 => true
    | 104 => true
    | 105 => true
    | 106 => true
    | 107 => true
    | 108 => true
    | 109 => true
    | 65 => true
    | 93 => true
    | 94 => true
    | 37 => true
    | _ => false
  prim := fun f => match f with
    | 167 => some (cloneH 1)
    | 14 => some (constH (.b true))
    | _ => none
  frz := fun f => match f with
    | _ => false

def ctxo : Ctx where
  fns := fun f => match f with
    | 3 => some law14_TcodeGet.c
    | 4 => some law14_TcodeSmall.c
    | 5 => some law14_TcodePut.c
    | 6 => some law14_TcodeDeep.c
    | 7 => some law14_TcodeBack.c
    | 8 => some law14_TcodeOnce.c
    | 14 => some law14_awake.c
    | 15 => some law14_get.c
    | 16 => some ref13_Parts.c
    | 17 => some ref02_Nodes.c
    | 18 => some law13_Made.c
    | 19 => some tcode_Put.c
    | 20 => some ref14_Put.c
    | 21 => some law14_full.c
    | 22 => some tcode_Get.c
    | 23 => some ref13_Same.c
    | 26 => some law02_Maker_Level.c
    | 29 => some ref02_Eval.c
    | 33 => some law13_Bind.c
    | 34 => some law13_Sort.c
    | 35 => some law13_Var.c
    | 36 => some ref14_Get.c
    | 37 => some law13_Term.c
    | 38 => some term_Right.c
    | 39 => some tcode_writer_term.c
    | 40 => some strings_Builder_String.c
    | 41 => some ref13_Shape.c
    | 42 => some ref14_text.c
    | 43 => some tcode_Get_1.c
    | 44 => some tcode_reader_term.c
    | 45 => some ref02_Same.c
    | 51 => some law02_Maker_Pick.c
    | 52 => some level_Right.c
    | 57 => some ref02_Right.c
    | 58 => some ref02_naturals.c
    | 59 => some ref02_Value.c
    | 65 => some ref14_reader_term.c
    | 66 => some term_room_fits.c
    | 67 => some tcode_writer_number.c
    | 68 => some lcode_Put.c
    | 69 => some strings_Builder_WriteString.c
    | 70 => some ref13_Right.c
    | 71 => some ref14_num.c
    | 72 => some ref03_Put.c
    | 73 => some tcode_reader_fail.c
    | 74 => some tcode_reader_number.c
    | 75 => some tcode_readers.c
    | 77 => some slices_ContainsFunc_Con.c
    | 84 => some level_nodes.c
    | 85 => some level_right.c
    | 88 => some slices_Collect_Clause.c
    | 91 => some ref02_right.c
    | 93 => some ref14_reader_number.c
    | 94 => some ref14_reader_level.c
    | 95 => some term_parts.c
    | 96 => some term_room_right.c
    | 97 => some octet_Put.c
    | 98 => some lcode_write.c
    | 99 => some strings_Builder_copyCheck.c
    | 100 => some ref13_right.c
    | 101 => some ref01_Put.c
    | 102 => some ref03_text.c
    | 103 => some octet_Get.c
    | 104 => some tcode_reader_variable.c
    | 105 => some tcode_reader_sort.c
    | 106 => some tcode_reader_constant.c
    | 107 => some tcode_reader_apply.c
    | 108 => some tcode_reader_bind.c
    | 109 => some tcode_reader_let.c
    | 110 => some slices_IndexFunc_Con.c
    | 115 => some level_kinds.c
    | 116 => some level_right_1.c
    | 117 => some level_named.c
    | 118 => some slices_ContainsFunc_Level.c
    | 122 => some slices_AppendSeq_Clause.c
    | 127 => some ref02_kids.c
    | 128 => some ref01_Get.c
    | 129 => some ref03_Get.c
    | 130 => some term_room_right_1.c
    | 131 => some term_shapes.c
    | 132 => some term_room_named.c
    | 133 => some term_below.c
    | 134 => some octet_digits.c
    | 135 => some lcode_write_1.c
    | 136 => some lcode_named.c
    | 138 => some ref13_kids.c
    | 139 => some ref13_named.c
    | 140 => some ref13_binds.c
    | 141 => some tcode_reader_levels.c
    | 142 => some tcode_reader_kids.c
    | 150 => some level_kinds_1.c
    | 151 => some level_kinds_2.c
    | 152 => some level_kinds_3.c
    | 153 => some level_kinds_4.c
    | 154 => some level_imax.c
    | 155 => some level_kinds_5.c
    | 156 => some level_kinds_6.c
    | 157 => some slices_IndexFunc_Level.c
    | 161 => some slices_Max_int.c
    | 163 => some slices_ContainsFunc_Clause.c
    | 169 => some ref03_reader_level.c
    | 170 => some octet_digits_1.c
    | 171 => some lcode_Get.c
    | 172 => some slices_Repeat_int.c
    | 173 => some slices_IndexFunc_Clause.c
    | 175 => some slices_Concat_Atom.c
    | 178 => some ref03_reader_number.c
    | 179 => some lcode_Get_1.c
    | 180 => some lcode_reader_level.c
    | 181 => some math_bits_Mul.c
    | 182 => some slices_Grow_Atom.c
    | 184 => some lcode_want.c
    | 185 => some lcode_reader_number.c
    | 186 => some math_bits_Mul32.c
    | 187 => some math_bits_Mul64.c
    | 189 => some slices_MinFunc_Atom.c
    | _ => none
  opn := fun f => match f with
    | 134 => true
    | 26 => true
    | 51 => true
    | 180 => true
    | 185 => true
    | 184 => true
    | 98 => true
    | 135 => true
    | 69 => true
    | 40 => true
    | 99 => true
    | 169 => true
    | 178 => true
    | 39 => true
    | 67 => true
    | 44 => true
    | 74 => true
    | 73 => true
    | 141 => true
    | 142 => true
    | 104 => true
    | 105 => true
    | 106 => true
    | 107 => true
    | 108 => true
    | 109 => true
    | 65 => true
    | 93 => true
    | 94 => true
    | 37 => true
    | _ => false
  prim := fun f => match f with
    | 167 => some (cloneH 1)
    | _ => none
  frz := fun f => match f with
    | _ => false

@[simp ↓] theorem law14_TcodeGet.fz : ctx.frz 3 = false := rfl
@[simp ↓] theorem law14_TcodeSmall.fz : ctx.frz 4 = false := rfl
@[simp ↓] theorem law14_TcodePut.fz : ctx.frz 5 = false := rfl
@[simp ↓] theorem law14_TcodeDeep.fz : ctx.frz 6 = false := rfl
@[simp ↓] theorem law14_TcodeBack.fz : ctx.frz 7 = false := rfl
@[simp ↓] theorem law14_TcodeOnce.fz : ctx.frz 8 = false := rfl
@[simp ↓] theorem law14_awake.fz : ctx.frz 14 = false := rfl
@[simp] theorem law14_awake.pr {first cap args : List V} {m : Sto} {x : Nat} {K : CR → Sto → Nat → Prop} : CallX ctx (.fn (.func 14) first cap) args m x K = opK (constH (.b true) (first ++ args ++ cap) m x) fun v ws => K (.ret v) (m.app ws) (x + 1) := CallX_pr rfl
@[simp ↓] theorem law14_get.fz : ctx.frz 15 = false := rfl
@[simp ↓] theorem ref13_Parts.fz : ctx.frz 16 = false := rfl
@[simp] theorem ref13_Parts.cl {K} : CallX ctx (.fn (.func 16) u y) z m x K = FrK (freezeL m (u ++ z ++ y)) (clK ctx 16 K m x) (wpCall ctx (.fn (.func 16) u y) z m x K) := CallX_cl rfl rfl
@[simp ↓] theorem ref02_Nodes.fz : ctx.frz 17 = false := rfl
@[simp] theorem ref02_Nodes.cl {K} : CallX ctx (.fn (.func 17) u y) z m x K = FrK (freezeL m (u ++ z ++ y)) (clK ctx 17 K m x) (wpCall ctx (.fn (.func 17) u y) z m x K) := CallX_cl rfl rfl
@[simp ↓] theorem law13_Made.fz : ctx.frz 18 = false := rfl
@[simp] theorem law13_Made.cq {K} : CallQ ctx (.fn (.func 18) u y) z m x K = FrK (freezeL m (u ++ z ++ y)) (cqK ctx 18 K m x) (wpQuiet ctx (.fn (.func 18) u y) z m x K) := CallQ_cl rfl rfl
@[simp ↓] theorem tcode_Put.fz : ctx.frz 19 = false := rfl
@[simp] theorem tcode_Put.cl {K} : CallX ctx (.fn (.func 19) u y) z m x K = FrK (freezeL m (u ++ z ++ y)) (clK ctx 19 K m x) (wpCall ctx (.fn (.func 19) u y) z m x K) := CallX_cl rfl rfl
@[simp ↓] theorem ref14_Put.fz : ctx.frz 20 = false := rfl
@[simp] theorem ref14_Put.cl {K} : CallX ctx (.fn (.func 20) u y) z m x K = FrK (freezeL m (u ++ z ++ y)) (clK ctx 20 K m x) (wpCall ctx (.fn (.func 20) u y) z m x K) := CallX_cl rfl rfl
@[simp ↓] theorem law14_full.fz : ctx.frz 21 = false := rfl
@[simp ↓] theorem tcode_Get.fz : ctx.frz 22 = false := rfl
@[simp ↓] theorem ref13_Same.fz : ctx.frz 23 = false := rfl
@[simp ↓] theorem law02_Maker_Level.fz : ctx.frz 26 = false := rfl
@[simp] theorem law02_Maker_Level.op : ctx.opn 26 = true := rfl
@[simp ↓] theorem ref02_Eval.fz : ctx.frz 29 = false := rfl
@[simp ↓] theorem law13_Bind.fz : ctx.frz 33 = false := rfl
@[simp] theorem law13_Bind.cl {K} : CallX ctx (.fn (.func 33) u y) z m x K = FrK (freezeL m (u ++ z ++ y)) (clK ctx 33 K m x) (wpCall ctx (.fn (.func 33) u y) z m x K) := CallX_cl rfl rfl
@[simp ↓] theorem law13_Sort.fz : ctx.frz 34 = false := rfl
@[simp] theorem law13_Sort.cl {K} : CallX ctx (.fn (.func 34) u y) z m x K = FrK (freezeL m (u ++ z ++ y)) (clK ctx 34 K m x) (wpCall ctx (.fn (.func 34) u y) z m x K) := CallX_cl rfl rfl
@[simp ↓] theorem law13_Var.fz : ctx.frz 35 = false := rfl
@[simp] theorem law13_Var.cl {K} : CallX ctx (.fn (.func 35) u y) z m x K = FrK (freezeL m (u ++ z ++ y)) (clK ctx 35 K m x) (wpCall ctx (.fn (.func 35) u y) z m x K) := CallX_cl rfl rfl
@[simp ↓] theorem ref14_Get.fz : ctx.frz 36 = false := rfl
@[simp ↓] theorem law13_Term.fz : ctx.frz 37 = false := rfl
@[simp] theorem law13_Term.op : ctx.opn 37 = true := rfl
@[simp ↓] theorem term_Right.fz : ctx.frz 38 = false := rfl
@[simp] theorem term_Right.cl {K} : CallX ctx (.fn (.func 38) u y) z m x K = FrK (freezeL m (u ++ z ++ y)) (clK ctx 38 K m x) (wpCall ctx (.fn (.func 38) u y) z m x K) := CallX_cl rfl rfl
@[simp ↓] theorem tcode_writer_term.fz : ctx.frz 39 = false := rfl
@[simp] theorem tcode_writer_term.op : ctx.opn 39 = true := rfl
@[simp ↓] theorem strings_Builder_String.fz : ctx.frz 40 = false := rfl
@[simp] theorem strings_Builder_String.op : ctx.opn 40 = true := rfl
@[simp ↓] theorem ref13_Shape.fz : ctx.frz 41 = false := rfl
@[simp] theorem ref13_Shape.cl {K} : CallX ctx (.fn (.func 41) u y) z m x K = FrK (freezeL m (u ++ z ++ y)) (clK ctx 41 K m x) (wpCall ctx (.fn (.func 41) u y) z m x K) := CallX_cl rfl rfl
@[simp ↓] theorem ref14_text.fz : ctx.frz 42 = false := rfl
@[simp] theorem ref14_text.cl {K} : CallX ctx (.fn (.func 42) u y) z m x K = FrK (freezeL m (u ++ z ++ y)) (clK ctx 42 K m x) (wpCall ctx (.fn (.func 42) u y) z m x K) := CallX_cl rfl rfl
@[simp ↓] theorem tcode_Get_1.fz : ctx.frz 43 = false := rfl
@[simp ↓] theorem tcode_reader_term.fz : ctx.frz 44 = false := rfl
@[simp] theorem tcode_reader_term.op : ctx.opn 44 = true := rfl
@[simp ↓] theorem ref02_Same.fz : ctx.frz 45 = false := rfl
@[simp ↓] theorem law02_Maker_Pick.fz : ctx.frz 51 = false := rfl
@[simp] theorem law02_Maker_Pick.op : ctx.opn 51 = true := rfl
@[simp ↓] theorem level_Right.fz : ctx.frz 52 = false := rfl
@[simp] theorem level_Right.cl {K} : CallX ctx (.fn (.func 52) u y) z m x K = FrK (freezeL m (u ++ z ++ y)) (clK ctx 52 K m x) (wpCall ctx (.fn (.func 52) u y) z m x K) := CallX_cl rfl rfl
@[simp ↓] theorem ref02_Right.fz : ctx.frz 57 = false := rfl
@[simp] theorem ref02_Right.cl {K} : CallX ctx (.fn (.func 57) u y) z m x K = FrK (freezeL m (u ++ z ++ y)) (clK ctx 57 K m x) (wpCall ctx (.fn (.func 57) u y) z m x K) := CallX_cl rfl rfl
@[simp ↓] theorem ref02_naturals.fz : ctx.frz 58 = false := rfl
@[simp ↓] theorem ref02_Value.fz : ctx.frz 59 = false := rfl
@[simp ↓] theorem ref14_reader_term.fz : ctx.frz 65 = false := rfl
@[simp] theorem ref14_reader_term.op : ctx.opn 65 = true := rfl
@[simp ↓] theorem term_room_fits.fz : ctx.frz 66 = false := rfl
@[simp] theorem term_room_fits.cl {K} : CallX ctx (.fn (.func 66) u y) z m x K = FrK (freezeL m (u ++ z ++ y)) (clK ctx 66 K m x) (wpCall ctx (.fn (.func 66) u y) z m x K) := CallX_cl rfl rfl
@[simp ↓] theorem tcode_writer_number.fz : ctx.frz 67 = false := rfl
@[simp] theorem tcode_writer_number.op : ctx.opn 67 = true := rfl
@[simp ↓] theorem lcode_Put.fz : ctx.frz 68 = false := rfl
@[simp] theorem lcode_Put.cl {K} : CallX ctx (.fn (.func 68) u y) z m x K = FrK (freezeL m (u ++ z ++ y)) (clK ctx 68 K m x) (wpCall ctx (.fn (.func 68) u y) z m x K) := CallX_cl rfl rfl
@[simp ↓] theorem strings_Builder_WriteString.fz : ctx.frz 69 = false := rfl
@[simp] theorem strings_Builder_WriteString.op : ctx.opn 69 = true := rfl
@[simp ↓] theorem ref13_Right.fz : ctx.frz 70 = false := rfl
@[simp] theorem ref13_Right.cl {K} : CallX ctx (.fn (.func 70) u y) z m x K = FrK (freezeL m (u ++ z ++ y)) (clK ctx 70 K m x) (wpCall ctx (.fn (.func 70) u y) z m x K) := CallX_cl rfl rfl
@[simp ↓] theorem ref14_num.fz : ctx.frz 71 = false := rfl
@[simp] theorem ref14_num.cl {K} : CallX ctx (.fn (.func 71) u y) z m x K = FrK (freezeL m (u ++ z ++ y)) (clK ctx 71 K m x) (wpCall ctx (.fn (.func 71) u y) z m x K) := CallX_cl rfl rfl
@[simp ↓] theorem ref03_Put.fz : ctx.frz 72 = false := rfl
@[simp] theorem ref03_Put.cl {K} : CallX ctx (.fn (.func 72) u y) z m x K = FrK (freezeL m (u ++ z ++ y)) (clK ctx 72 K m x) (wpCall ctx (.fn (.func 72) u y) z m x K) := CallX_cl rfl rfl
@[simp ↓] theorem tcode_reader_fail.fz : ctx.frz 73 = false := rfl
@[simp] theorem tcode_reader_fail.op : ctx.opn 73 = true := rfl
@[simp ↓] theorem tcode_reader_number.fz : ctx.frz 74 = false := rfl
@[simp] theorem tcode_reader_number.op : ctx.opn 74 = true := rfl
@[simp ↓] theorem tcode_readers.fz : ctx.frz 75 = false := rfl
@[simp ↓] theorem slices_ContainsFunc_Con.fz : ctx.frz 77 = false := rfl
@[simp ↓] theorem level_nodes.fz : ctx.frz 84 = false := rfl
@[simp] theorem level_nodes.cl {K} : CallX ctx (.fn (.func 84) u y) z m x K = FrK (freezeL m (u ++ z ++ y)) (clK ctx 84 K m x) (wpCall ctx (.fn (.func 84) u y) z m x K) := CallX_cl rfl rfl
@[simp ↓] theorem level_right.fz : ctx.frz 85 = false := rfl
@[simp] theorem level_right.cl {K} : CallX ctx (.fn (.func 85) u y) z m x K = FrK (freezeL m (u ++ z ++ y)) (clK ctx 85 K m x) (wpCall ctx (.fn (.func 85) u y) z m x K) := CallX_cl rfl rfl
@[simp ↓] theorem slices_Collect_Clause.fz : ctx.frz 88 = false := rfl
@[simp ↓] theorem ref02_right.fz : ctx.frz 91 = false := rfl
@[simp] theorem ref02_right.cl {K} : CallX ctx (.fn (.func 91) u y) z m x K = FrK (freezeL m (u ++ z ++ y)) (clK ctx 91 K m x) (wpCall ctx (.fn (.func 91) u y) z m x K) := CallX_cl rfl rfl
@[simp ↓] theorem ref14_reader_number.fz : ctx.frz 93 = false := rfl
@[simp] theorem ref14_reader_number.op : ctx.opn 93 = true := rfl
@[simp ↓] theorem ref14_reader_level.fz : ctx.frz 94 = false := rfl
@[simp] theorem ref14_reader_level.op : ctx.opn 94 = true := rfl
@[simp ↓] theorem term_parts.fz : ctx.frz 95 = false := rfl
@[simp] theorem term_parts.cl {K} : CallX ctx (.fn (.func 95) u y) z m x K = FrK (freezeL m (u ++ z ++ y)) (clK ctx 95 K m x) (wpCall ctx (.fn (.func 95) u y) z m x K) := CallX_cl rfl rfl
@[simp ↓] theorem term_room_right.fz : ctx.frz 96 = false := rfl
@[simp] theorem term_room_right.cl {K} : CallX ctx (.fn (.func 96) u y) z m x K = FrK (freezeL m (u ++ z ++ y)) (clK ctx 96 K m x) (wpCall ctx (.fn (.func 96) u y) z m x K) := CallX_cl rfl rfl
@[simp ↓] theorem octet_Put.fz : ctx.frz 97 = false := rfl
@[simp] theorem octet_Put.cl {K} : CallX ctx (.fn (.func 97) u y) z m x K = FrK (freezeL m (u ++ z ++ y)) (clK ctx 97 K m x) (wpCall ctx (.fn (.func 97) u y) z m x K) := CallX_cl rfl rfl
@[simp ↓] theorem lcode_write.fz : ctx.frz 98 = false := rfl
@[simp] theorem lcode_write.op : ctx.opn 98 = true := rfl
@[simp ↓] theorem strings_Builder_copyCheck.fz : ctx.frz 99 = false := rfl
@[simp] theorem strings_Builder_copyCheck.op : ctx.opn 99 = true := rfl
@[simp ↓] theorem ref13_right.fz : ctx.frz 100 = false := rfl
@[simp] theorem ref13_right.cl {K} : CallX ctx (.fn (.func 100) u y) z m x K = FrK (freezeL m (u ++ z ++ y)) (clK ctx 100 K m x) (wpCall ctx (.fn (.func 100) u y) z m x K) := CallX_cl rfl rfl
@[simp ↓] theorem ref01_Put.fz : ctx.frz 101 = false := rfl
@[simp] theorem ref01_Put.cl {K} : CallX ctx (.fn (.func 101) u y) z m x K = FrK (freezeL m (u ++ z ++ y)) (clK ctx 101 K m x) (wpCall ctx (.fn (.func 101) u y) z m x K) := CallX_cl rfl rfl
@[simp ↓] theorem ref03_text.fz : ctx.frz 102 = false := rfl
@[simp] theorem ref03_text.cl {K} : CallX ctx (.fn (.func 102) u y) z m x K = FrK (freezeL m (u ++ z ++ y)) (clK ctx 102 K m x) (wpCall ctx (.fn (.func 102) u y) z m x K) := CallX_cl rfl rfl
@[simp ↓] theorem octet_Get.fz : ctx.frz 103 = false := rfl
@[simp ↓] theorem tcode_reader_variable.fz : ctx.frz 104 = false := rfl
@[simp] theorem tcode_reader_variable.op : ctx.opn 104 = true := rfl
@[simp ↓] theorem tcode_reader_sort.fz : ctx.frz 105 = false := rfl
@[simp] theorem tcode_reader_sort.op : ctx.opn 105 = true := rfl
@[simp ↓] theorem tcode_reader_constant.fz : ctx.frz 106 = false := rfl
@[simp] theorem tcode_reader_constant.op : ctx.opn 106 = true := rfl
@[simp ↓] theorem tcode_reader_apply.fz : ctx.frz 107 = false := rfl
@[simp] theorem tcode_reader_apply.op : ctx.opn 107 = true := rfl
@[simp ↓] theorem tcode_reader_bind.fz : ctx.frz 108 = false := rfl
@[simp] theorem tcode_reader_bind.op : ctx.opn 108 = true := rfl
@[simp ↓] theorem tcode_reader_let.fz : ctx.frz 109 = false := rfl
@[simp] theorem tcode_reader_let.op : ctx.opn 109 = true := rfl
@[simp ↓] theorem slices_IndexFunc_Con.fz : ctx.frz 110 = false := rfl
@[simp ↓] theorem level_kinds.fz : ctx.frz 115 = false := rfl
@[simp] theorem level_kinds.cq {K} : CallQ ctx (.fn (.func 115) u y) z m x K = FrK (freezeL m (u ++ z ++ y)) (cqK ctx 115 K m x) (wpQuiet ctx (.fn (.func 115) u y) z m x K) := CallQ_cl rfl rfl
@[simp ↓] theorem level_right_1.fz : ctx.frz 116 = false := rfl
@[simp ↓] theorem level_named.fz : ctx.frz 117 = false := rfl
@[simp] theorem level_named.cl {K} : CallX ctx (.fn (.func 117) u y) z m x K = FrK (freezeL m (u ++ z ++ y)) (clK ctx 117 K m x) (wpCall ctx (.fn (.func 117) u y) z m x K) := CallX_cl rfl rfl
@[simp ↓] theorem slices_ContainsFunc_Level.fz : ctx.frz 118 = false := rfl
@[simp] theorem slices_ContainsFunc_Level.cl {K} : CallX ctx (.fn (.func 118) u y) z m x K = FrK (freezeL m (u ++ z ++ y)) (clK ctx 118 K m x) (wpCall ctx (.fn (.func 118) u y) z m x K) := CallX_cl rfl rfl
@[simp ↓] theorem slices_AppendSeq_Clause.fz : ctx.frz 122 = false := rfl
@[simp ↓] theorem ref02_kids.fz : ctx.frz 127 = false := rfl
@[simp] theorem ref02_kids.cq {K} : CallQ ctx (.fn (.func 127) u y) z m x K = FrK (freezeL m (u ++ z ++ y)) (cqK ctx 127 K m x) (wpQuiet ctx (.fn (.func 127) u y) z m x K) := CallQ_cl rfl rfl
@[simp ↓] theorem ref01_Get.fz : ctx.frz 128 = false := rfl
@[simp ↓] theorem ref03_Get.fz : ctx.frz 129 = false := rfl
@[simp ↓] theorem term_room_right_1.fz : ctx.frz 130 = false := rfl
@[simp ↓] theorem term_shapes.fz : ctx.frz 131 = false := rfl
@[simp] theorem term_shapes.cq {K} : CallQ ctx (.fn (.func 131) u y) z m x K = FrK (freezeL m (u ++ z ++ y)) (cqK ctx 131 K m x) (wpQuiet ctx (.fn (.func 131) u y) z m x K) := CallQ_cl rfl rfl
@[simp ↓] theorem term_room_named.fz : ctx.frz 132 = false := rfl
@[simp] theorem term_room_named.cl {K} : CallX ctx (.fn (.func 132) u y) z m x K = FrK (freezeL m (u ++ z ++ y)) (clK ctx 132 K m x) (wpCall ctx (.fn (.func 132) u y) z m x K) := CallX_cl rfl rfl
@[simp ↓] theorem term_below.fz : ctx.frz 133 = false := rfl
@[simp] theorem term_below.cq {K} : CallQ ctx (.fn (.func 133) u y) z m x K = FrK (freezeL m (u ++ z ++ y)) (cqK ctx 133 K m x) (wpQuiet ctx (.fn (.func 133) u y) z m x K) := CallQ_cl rfl rfl
@[simp ↓] theorem octet_digits.fz : ctx.frz 134 = false := rfl
@[simp] theorem octet_digits.op : ctx.opn 134 = true := rfl
@[simp ↓] theorem lcode_write_1.fz : ctx.frz 135 = false := rfl
@[simp] theorem lcode_write_1.op : ctx.opn 135 = true := rfl
@[simp ↓] theorem lcode_named.fz : ctx.frz 136 = false := rfl
@[simp] theorem lcode_named.cl {K} : CallX ctx (.fn (.func 136) u y) z m x K = FrK (freezeL m (u ++ z ++ y)) (clK ctx 136 K m x) (wpCall ctx (.fn (.func 136) u y) z m x K) := CallX_cl rfl rfl
@[simp ↓] theorem ref13_kids.fz : ctx.frz 138 = false := rfl
@[simp] theorem ref13_kids.cq {K} : CallQ ctx (.fn (.func 138) u y) z m x K = FrK (freezeL m (u ++ z ++ y)) (cqK ctx 138 K m x) (wpQuiet ctx (.fn (.func 138) u y) z m x K) := CallQ_cl rfl rfl
@[simp ↓] theorem ref13_named.fz : ctx.frz 139 = false := rfl
@[simp] theorem ref13_named.cl {K} : CallX ctx (.fn (.func 139) u y) z m x K = FrK (freezeL m (u ++ z ++ y)) (clK ctx 139 K m x) (wpCall ctx (.fn (.func 139) u y) z m x K) := CallX_cl rfl rfl
@[simp ↓] theorem ref13_binds.fz : ctx.frz 140 = false := rfl
@[simp] theorem ref13_binds.cq {K} : CallQ ctx (.fn (.func 140) u y) z m x K = FrK (freezeL m (u ++ z ++ y)) (cqK ctx 140 K m x) (wpQuiet ctx (.fn (.func 140) u y) z m x K) := CallQ_cl rfl rfl
@[simp ↓] theorem tcode_reader_levels.fz : ctx.frz 141 = false := rfl
@[simp] theorem tcode_reader_levels.op : ctx.opn 141 = true := rfl
@[simp ↓] theorem tcode_reader_kids.fz : ctx.frz 142 = false := rfl
@[simp] theorem tcode_reader_kids.op : ctx.opn 142 = true := rfl
@[simp ↓] theorem level_kinds_1.fz : ctx.frz 150 = false := rfl
@[simp ↓] theorem level_kinds_2.fz : ctx.frz 151 = false := rfl
@[simp ↓] theorem level_kinds_3.fz : ctx.frz 152 = false := rfl
@[simp ↓] theorem level_kinds_4.fz : ctx.frz 153 = false := rfl
@[simp ↓] theorem level_imax.fz : ctx.frz 154 = false := rfl
@[simp ↓] theorem level_kinds_5.fz : ctx.frz 155 = false := rfl
@[simp ↓] theorem level_kinds_6.fz : ctx.frz 156 = false := rfl
@[simp ↓] theorem slices_IndexFunc_Level.fz : ctx.frz 157 = false := rfl
@[simp] theorem slices_IndexFunc_Level.cl {K} : CallX ctx (.fn (.func 157) u y) z m x K = FrK (freezeL m (u ++ z ++ y)) (clK ctx 157 K m x) (wpCall ctx (.fn (.func 157) u y) z m x K) := CallX_cl rfl rfl
@[simp ↓] theorem slices_Max_int.fz : ctx.frz 161 = false := rfl
@[simp ↓] theorem slices_ContainsFunc_Clause.fz : ctx.frz 163 = false := rfl
@[simp ↓] theorem slices_Clone_int.fz : ctx.frz 167 = false := rfl
@[simp ↓] theorem ref03_reader_level.fz : ctx.frz 169 = false := rfl
@[simp] theorem ref03_reader_level.op : ctx.opn 169 = true := rfl
@[simp ↓] theorem octet_digits_1.fz : ctx.frz 170 = false := rfl
@[simp ↓] theorem lcode_Get.fz : ctx.frz 171 = false := rfl
@[simp ↓] theorem slices_Repeat_int.fz : ctx.frz 172 = false := rfl
@[simp ↓] theorem slices_IndexFunc_Clause.fz : ctx.frz 173 = false := rfl
@[simp ↓] theorem slices_Concat_Atom.fz : ctx.frz 175 = false := rfl
@[simp ↓] theorem ref03_reader_number.fz : ctx.frz 178 = false := rfl
@[simp] theorem ref03_reader_number.op : ctx.opn 178 = true := rfl
@[simp ↓] theorem lcode_Get_1.fz : ctx.frz 179 = false := rfl
@[simp ↓] theorem lcode_reader_level.fz : ctx.frz 180 = false := rfl
@[simp] theorem lcode_reader_level.op : ctx.opn 180 = true := rfl
@[simp ↓] theorem math_bits_Mul.fz : ctx.frz 181 = false := rfl
@[simp ↓] theorem slices_Grow_Atom.fz : ctx.frz 182 = false := rfl
@[simp ↓] theorem lcode_want.fz : ctx.frz 184 = false := rfl
@[simp] theorem lcode_want.op : ctx.opn 184 = true := rfl
@[simp ↓] theorem lcode_reader_number.fz : ctx.frz 185 = false := rfl
@[simp] theorem lcode_reader_number.op : ctx.opn 185 = true := rfl
@[simp ↓] theorem math_bits_Mul32.fz : ctx.frz 186 = false := rfl
@[simp ↓] theorem math_bits_Mul64.fz : ctx.frz 187 = false := rfl
@[simp ↓] theorem slices_MinFunc_Atom.fz : ctx.frz 189 = false := rfl
set_option maxRecDepth 100000 in
theorem law14_TcodeGet.k : compF Go.Proofs.Try.prog Go.Proofs.Try.f3 = some law14_TcodeGet.c := by kernel_rfl
set_option maxRecDepth 100000 in
theorem law14_TcodeSmall.k : compF Go.Proofs.Try.prog Go.Proofs.Try.f4 = some law14_TcodeSmall.c := by kernel_rfl
set_option maxRecDepth 100000 in
theorem law14_TcodePut.k : compF Go.Proofs.Try.prog Go.Proofs.Try.f5 = some law14_TcodePut.c := by kernel_rfl
theorem law14_TcodePut.f : ctx.fns 5 = some law14_TcodePut.c := rfl
set_option maxRecDepth 100000 in
theorem law14_TcodeDeep.k : compF Go.Proofs.Try.prog Go.Proofs.Try.f6 = some law14_TcodeDeep.c := by kernel_rfl
set_option maxRecDepth 100000 in
theorem law14_TcodeBack.k : compF Go.Proofs.Try.prog Go.Proofs.Try.f7 = some law14_TcodeBack.c := by kernel_rfl
set_option maxRecDepth 100000 in
theorem law14_TcodeOnce.k : compF Go.Proofs.Try.prog Go.Proofs.Try.f8 = some law14_TcodeOnce.c := by kernel_rfl
set_option maxRecDepth 100000 in
theorem law14_awake.k : compF Go.Proofs.Try.prog Go.Proofs.Try.f14 = some law14_awake.c := by kernel_rfl
set_option maxRecDepth 100000 in
theorem law14_get.k : compF Go.Proofs.Try.prog Go.Proofs.Try.f15 = some law14_get.c := by kernel_rfl
set_option maxRecDepth 100000 in
theorem ref13_Parts.k : compF Go.Proofs.Try.prog Go.Proofs.Try.f16 = some ref13_Parts.c := by kernel_rfl
theorem ref13_Parts.f : ctx.fns 16 = some ref13_Parts.c := rfl
set_option maxRecDepth 100000 in
theorem ref02_Nodes.k : compF Go.Proofs.Try.prog Go.Proofs.Try.f17 = some ref02_Nodes.c := by kernel_rfl
theorem ref02_Nodes.f : ctx.fns 17 = some ref02_Nodes.c := rfl
set_option maxRecDepth 100000 in
theorem law13_Made.k : compF Go.Proofs.Try.prog Go.Proofs.Try.f18 = some law13_Made.c := by kernel_rfl
theorem law13_Made.f : ctx.fns 18 = some law13_Made.c := rfl
set_option maxRecDepth 100000 in
theorem tcode_Put.k : compF Go.Proofs.Try.prog Go.Proofs.Try.f19 = some tcode_Put.c := by kernel_rfl
theorem tcode_Put.f : ctx.fns 19 = some tcode_Put.c := rfl
set_option maxRecDepth 100000 in
theorem ref14_Put.k : compF Go.Proofs.Try.prog Go.Proofs.Try.f20 = some ref14_Put.c := by kernel_rfl
theorem ref14_Put.f : ctx.fns 20 = some ref14_Put.c := rfl
set_option maxRecDepth 100000 in
theorem law14_full.k : compF Go.Proofs.Try.prog Go.Proofs.Try.f21 = some law14_full.c := by kernel_rfl
set_option maxRecDepth 100000 in
theorem tcode_Get.k : compF Go.Proofs.Try.prog Go.Proofs.Try.f22 = some tcode_Get.c := by kernel_rfl
set_option maxRecDepth 100000 in
theorem ref13_Same.k : compF Go.Proofs.Try.prog Go.Proofs.Try.f23 = some ref13_Same.c := by kernel_rfl
set_option maxRecDepth 100000 in
theorem law02_Maker_Level.k : compF Go.Proofs.Try.prog Go.Proofs.Try.f26 = some law02_Maker_Level.c := by kernel_rfl
theorem law02_Maker_Level.f : ctx.fns 26 = some law02_Maker_Level.c := rfl
set_option maxRecDepth 100000 in
theorem ref02_Eval.k : compF Go.Proofs.Try.prog Go.Proofs.Try.f29 = some ref02_Eval.c := by kernel_rfl
set_option maxRecDepth 100000 in
theorem law13_Bind.k : compF Go.Proofs.Try.prog Go.Proofs.Try.f33 = some law13_Bind.c := by kernel_rfl
theorem law13_Bind.f : ctx.fns 33 = some law13_Bind.c := rfl
set_option maxRecDepth 100000 in
theorem law13_Sort.k : compF Go.Proofs.Try.prog Go.Proofs.Try.f34 = some law13_Sort.c := by kernel_rfl
theorem law13_Sort.f : ctx.fns 34 = some law13_Sort.c := rfl
set_option maxRecDepth 100000 in
theorem law13_Var.k : compF Go.Proofs.Try.prog Go.Proofs.Try.f35 = some law13_Var.c := by kernel_rfl
theorem law13_Var.f : ctx.fns 35 = some law13_Var.c := rfl
set_option maxRecDepth 100000 in
theorem ref14_Get.k : compF Go.Proofs.Try.prog Go.Proofs.Try.f36 = some ref14_Get.c := by kernel_rfl
set_option maxRecDepth 100000 in
theorem law13_Term.k : compF Go.Proofs.Try.prog Go.Proofs.Try.f37 = some law13_Term.c := by kernel_rfl
set_option maxRecDepth 100000 in
theorem term_Right.k : compF Go.Proofs.Try.prog Go.Proofs.Try.f38 = some term_Right.c := by kernel_rfl
theorem term_Right.f : ctx.fns 38 = some term_Right.c := rfl
set_option maxRecDepth 100000 in
theorem tcode_writer_term.k : compF Go.Proofs.Try.prog Go.Proofs.Try.f39 = some tcode_writer_term.c := by kernel_rfl
set_option maxRecDepth 100000 in
theorem strings_Builder_String.k : compF Go.Proofs.Try.prog Go.Proofs.Try.f40 = some strings_Builder_String.c := by kernel_rfl
set_option maxRecDepth 100000 in
theorem ref13_Shape.k : compF Go.Proofs.Try.prog Go.Proofs.Try.f41 = some ref13_Shape.c := by kernel_rfl
theorem ref13_Shape.f : ctx.fns 41 = some ref13_Shape.c := rfl
set_option maxRecDepth 100000 in
theorem ref14_text.k : compF Go.Proofs.Try.prog Go.Proofs.Try.f42 = some ref14_text.c := by kernel_rfl
theorem ref14_text.f : ctx.fns 42 = some ref14_text.c := rfl
set_option maxRecDepth 100000 in
theorem tcode_Get_1.k : compF Go.Proofs.Try.prog Go.Proofs.Try.f43 = some tcode_Get_1.c := by kernel_rfl
set_option maxRecDepth 100000 in
theorem tcode_reader_term.k : compF Go.Proofs.Try.prog Go.Proofs.Try.f44 = some tcode_reader_term.c := by kernel_rfl
set_option maxRecDepth 100000 in
theorem ref02_Same.k : compF Go.Proofs.Try.prog Go.Proofs.Try.f45 = some ref02_Same.c := by kernel_rfl
set_option maxRecDepth 100000 in
theorem law02_Maker_Pick.k : compF Go.Proofs.Try.prog Go.Proofs.Try.f51 = some law02_Maker_Pick.c := by kernel_rfl
theorem law02_Maker_Pick.f : ctx.fns 51 = some law02_Maker_Pick.c := rfl
set_option maxRecDepth 100000 in
theorem level_Right.k : compF Go.Proofs.Try.prog Go.Proofs.Try.f52 = some level_Right.c := by kernel_rfl
theorem level_Right.f : ctx.fns 52 = some level_Right.c := rfl
set_option maxRecDepth 100000 in
theorem ref02_Right.k : compF Go.Proofs.Try.prog Go.Proofs.Try.f57 = some ref02_Right.c := by kernel_rfl
theorem ref02_Right.f : ctx.fns 57 = some ref02_Right.c := rfl
set_option maxRecDepth 100000 in
theorem ref02_naturals.k : compF Go.Proofs.Try.prog Go.Proofs.Try.f58 = some ref02_naturals.c := by kernel_rfl
set_option maxRecDepth 100000 in
theorem ref02_Value.k : compF Go.Proofs.Try.prog Go.Proofs.Try.f59 = some ref02_Value.c := by kernel_rfl
set_option maxRecDepth 100000 in
theorem ref14_reader_term.k : compF Go.Proofs.Try.prog Go.Proofs.Try.f65 = some ref14_reader_term.c := by kernel_rfl
set_option maxRecDepth 100000 in
theorem term_room_fits.k : compF Go.Proofs.Try.prog Go.Proofs.Try.f66 = some term_room_fits.c := by kernel_rfl
theorem term_room_fits.f : ctx.fns 66 = some term_room_fits.c := rfl
set_option maxRecDepth 100000 in
theorem tcode_writer_number.k : compF Go.Proofs.Try.prog Go.Proofs.Try.f67 = some tcode_writer_number.c := by kernel_rfl
set_option maxRecDepth 100000 in
theorem lcode_Put.k : compF Go.Proofs.Try.prog Go.Proofs.Try.f68 = some lcode_Put.c := by kernel_rfl
theorem lcode_Put.f : ctx.fns 68 = some lcode_Put.c := rfl
set_option maxRecDepth 100000 in
theorem strings_Builder_WriteString.k : compF Go.Proofs.Try.prog Go.Proofs.Try.f69 = some strings_Builder_WriteString.c := by kernel_rfl
set_option maxRecDepth 100000 in
theorem ref13_Right.k : compF Go.Proofs.Try.prog Go.Proofs.Try.f70 = some ref13_Right.c := by kernel_rfl
theorem ref13_Right.f : ctx.fns 70 = some ref13_Right.c := rfl
set_option maxRecDepth 100000 in
theorem ref14_num.k : compF Go.Proofs.Try.prog Go.Proofs.Try.f71 = some ref14_num.c := by kernel_rfl
theorem ref14_num.f : ctx.fns 71 = some ref14_num.c := rfl
set_option maxRecDepth 100000 in
theorem ref03_Put.k : compF Go.Proofs.Try.prog Go.Proofs.Try.f72 = some ref03_Put.c := by kernel_rfl
theorem ref03_Put.f : ctx.fns 72 = some ref03_Put.c := rfl
set_option maxRecDepth 100000 in
theorem tcode_reader_fail.k : compF Go.Proofs.Try.prog Go.Proofs.Try.f73 = some tcode_reader_fail.c := by kernel_rfl
set_option maxRecDepth 100000 in
theorem tcode_reader_number.k : compF Go.Proofs.Try.prog Go.Proofs.Try.f74 = some tcode_reader_number.c := by kernel_rfl
set_option maxRecDepth 100000 in
theorem tcode_readers.k : compF Go.Proofs.Try.prog Go.Proofs.Try.f75 = some tcode_readers.c := by kernel_rfl
set_option maxRecDepth 100000 in
theorem slices_ContainsFunc_Con.k : compF Go.Proofs.Try.prog Go.Proofs.Try.f77 = some slices_ContainsFunc_Con.c := by kernel_rfl
set_option maxRecDepth 100000 in
theorem level_nodes.k : compF Go.Proofs.Try.prog Go.Proofs.Try.f84 = some level_nodes.c := by kernel_rfl
theorem level_nodes.f : ctx.fns 84 = some level_nodes.c := rfl
set_option maxRecDepth 100000 in
theorem level_right.k : compF Go.Proofs.Try.prog Go.Proofs.Try.f85 = some level_right.c := by kernel_rfl
theorem level_right.f : ctx.fns 85 = some level_right.c := rfl
set_option maxRecDepth 100000 in
theorem slices_Collect_Clause.k : compF Go.Proofs.Try.prog Go.Proofs.Try.f88 = some slices_Collect_Clause.c := by kernel_rfl
set_option maxRecDepth 100000 in
theorem ref02_right.k : compF Go.Proofs.Try.prog Go.Proofs.Try.f91 = some ref02_right.c := by kernel_rfl
theorem ref02_right.f : ctx.fns 91 = some ref02_right.c := rfl
set_option maxRecDepth 100000 in
theorem ref14_reader_number.k : compF Go.Proofs.Try.prog Go.Proofs.Try.f93 = some ref14_reader_number.c := by kernel_rfl
set_option maxRecDepth 100000 in
theorem ref14_reader_level.k : compF Go.Proofs.Try.prog Go.Proofs.Try.f94 = some ref14_reader_level.c := by kernel_rfl
set_option maxRecDepth 100000 in
theorem term_parts.k : compF Go.Proofs.Try.prog Go.Proofs.Try.f95 = some term_parts.c := by kernel_rfl
theorem term_parts.f : ctx.fns 95 = some term_parts.c := rfl
set_option maxRecDepth 100000 in
theorem term_room_right.k : compF Go.Proofs.Try.prog Go.Proofs.Try.f96 = some term_room_right.c := by kernel_rfl
theorem term_room_right.f : ctx.fns 96 = some term_room_right.c := rfl
set_option maxRecDepth 100000 in
theorem octet_Put.k : compF Go.Proofs.Try.prog Go.Proofs.Try.f97 = some octet_Put.c := by kernel_rfl
theorem octet_Put.f : ctx.fns 97 = some octet_Put.c := rfl
set_option maxRecDepth 100000 in
theorem lcode_write.k : compF Go.Proofs.Try.prog Go.Proofs.Try.f98 = some lcode_write.c := by kernel_rfl
set_option maxRecDepth 100000 in
theorem strings_Builder_copyCheck.k : compF Go.Proofs.Try.prog Go.Proofs.Try.f99 = some strings_Builder_copyCheck.c := by kernel_rfl
set_option maxRecDepth 100000 in
theorem ref13_right.k : compF Go.Proofs.Try.prog Go.Proofs.Try.f100 = some ref13_right.c := by kernel_rfl
theorem ref13_right.f : ctx.fns 100 = some ref13_right.c := rfl
set_option maxRecDepth 100000 in
theorem ref01_Put.k : compF Go.Proofs.Try.prog Go.Proofs.Try.f101 = some ref01_Put.c := by kernel_rfl
theorem ref01_Put.f : ctx.fns 101 = some ref01_Put.c := rfl
set_option maxRecDepth 100000 in
theorem ref03_text.k : compF Go.Proofs.Try.prog Go.Proofs.Try.f102 = some ref03_text.c := by kernel_rfl
theorem ref03_text.f : ctx.fns 102 = some ref03_text.c := rfl
set_option maxRecDepth 100000 in
theorem octet_Get.k : compF Go.Proofs.Try.prog Go.Proofs.Try.f103 = some octet_Get.c := by kernel_rfl
set_option maxRecDepth 100000 in
theorem tcode_reader_variable.k : compF Go.Proofs.Try.prog Go.Proofs.Try.f104 = some tcode_reader_variable.c := by kernel_rfl
set_option maxRecDepth 100000 in
theorem tcode_reader_sort.k : compF Go.Proofs.Try.prog Go.Proofs.Try.f105 = some tcode_reader_sort.c := by kernel_rfl
set_option maxRecDepth 100000 in
theorem tcode_reader_constant.k : compF Go.Proofs.Try.prog Go.Proofs.Try.f106 = some tcode_reader_constant.c := by kernel_rfl
set_option maxRecDepth 100000 in
theorem tcode_reader_apply.k : compF Go.Proofs.Try.prog Go.Proofs.Try.f107 = some tcode_reader_apply.c := by kernel_rfl
set_option maxRecDepth 100000 in
theorem tcode_reader_bind.k : compF Go.Proofs.Try.prog Go.Proofs.Try.f108 = some tcode_reader_bind.c := by kernel_rfl
set_option maxRecDepth 100000 in
theorem tcode_reader_let.k : compF Go.Proofs.Try.prog Go.Proofs.Try.f109 = some tcode_reader_let.c := by kernel_rfl
set_option maxRecDepth 100000 in
theorem slices_IndexFunc_Con.k : compF Go.Proofs.Try.prog Go.Proofs.Try.f110 = some slices_IndexFunc_Con.c := by kernel_rfl
set_option maxRecDepth 100000 in
theorem level_kinds.k : compF Go.Proofs.Try.prog Go.Proofs.Try.f115 = some level_kinds.c := by kernel_rfl
set_option maxRecDepth 100000 in
theorem level_right_1.k : compF Go.Proofs.Try.prog Go.Proofs.Try.f116 = some level_right_1.c := by kernel_rfl
theorem level_right_1.f : ctx.fns 116 = some level_right_1.c := rfl
set_option maxRecDepth 100000 in
theorem level_named.k : compF Go.Proofs.Try.prog Go.Proofs.Try.f117 = some level_named.c := by kernel_rfl
theorem level_named.f : ctx.fns 117 = some level_named.c := rfl
set_option maxRecDepth 100000 in
theorem slices_ContainsFunc_Level.k : compF Go.Proofs.Try.prog Go.Proofs.Try.f118 = some slices_ContainsFunc_Level.c := by kernel_rfl
theorem slices_ContainsFunc_Level.f : ctx.fns 118 = some slices_ContainsFunc_Level.c := rfl
set_option maxRecDepth 100000 in
theorem slices_AppendSeq_Clause.k : compF Go.Proofs.Try.prog Go.Proofs.Try.f122 = some slices_AppendSeq_Clause.c := by kernel_rfl
set_option maxRecDepth 100000 in
theorem ref02_kids.k : compF Go.Proofs.Try.prog Go.Proofs.Try.f127 = some ref02_kids.c := by kernel_rfl
theorem ref02_kids.f : ctx.fns 127 = some ref02_kids.c := rfl
set_option maxRecDepth 100000 in
theorem ref01_Get.k : compF Go.Proofs.Try.prog Go.Proofs.Try.f128 = some ref01_Get.c := by kernel_rfl
set_option maxRecDepth 100000 in
theorem ref03_Get.k : compF Go.Proofs.Try.prog Go.Proofs.Try.f129 = some ref03_Get.c := by kernel_rfl
set_option maxRecDepth 100000 in
theorem term_room_right_1.k : compF Go.Proofs.Try.prog Go.Proofs.Try.f130 = some term_room_right_1.c := by kernel_rfl
theorem term_room_right_1.f : ctx.fns 130 = some term_room_right_1.c := rfl
set_option maxRecDepth 100000 in
theorem term_shapes.k : compF Go.Proofs.Try.prog Go.Proofs.Try.f131 = some term_shapes.c := by kernel_rfl
set_option maxRecDepth 100000 in
theorem term_room_named.k : compF Go.Proofs.Try.prog Go.Proofs.Try.f132 = some term_room_named.c := by kernel_rfl
theorem term_room_named.f : ctx.fns 132 = some term_room_named.c := rfl
set_option maxRecDepth 100000 in
theorem term_below.k : compF Go.Proofs.Try.prog Go.Proofs.Try.f133 = some term_below.c := by kernel_rfl
theorem term_below.f : ctx.fns 133 = some term_below.c := rfl
set_option maxRecDepth 100000 in
theorem octet_digits.k : compF Go.Proofs.Try.prog Go.Proofs.Try.f134 = some octet_digits.c := by kernel_rfl
theorem octet_digits.f : ctx.fns 134 = some octet_digits.c := rfl
set_option maxRecDepth 100000 in
theorem lcode_write_1.k : compF Go.Proofs.Try.prog Go.Proofs.Try.f135 = some lcode_write_1.c := by kernel_rfl
set_option maxRecDepth 100000 in
theorem lcode_named.k : compF Go.Proofs.Try.prog Go.Proofs.Try.f136 = some lcode_named.c := by kernel_rfl
theorem lcode_named.f : ctx.fns 136 = some lcode_named.c := rfl
set_option maxRecDepth 100000 in
theorem ref13_kids.k : compF Go.Proofs.Try.prog Go.Proofs.Try.f138 = some ref13_kids.c := by kernel_rfl
theorem ref13_kids.f : ctx.fns 138 = some ref13_kids.c := rfl
set_option maxRecDepth 100000 in
theorem ref13_named.k : compF Go.Proofs.Try.prog Go.Proofs.Try.f139 = some ref13_named.c := by kernel_rfl
theorem ref13_named.f : ctx.fns 139 = some ref13_named.c := rfl
set_option maxRecDepth 100000 in
theorem ref13_binds.k : compF Go.Proofs.Try.prog Go.Proofs.Try.f140 = some ref13_binds.c := by kernel_rfl
theorem ref13_binds.f : ctx.fns 140 = some ref13_binds.c := rfl
set_option maxRecDepth 100000 in
theorem tcode_reader_levels.k : compF Go.Proofs.Try.prog Go.Proofs.Try.f141 = some tcode_reader_levels.c := by kernel_rfl
set_option maxRecDepth 100000 in
theorem tcode_reader_kids.k : compF Go.Proofs.Try.prog Go.Proofs.Try.f142 = some tcode_reader_kids.c := by kernel_rfl
set_option maxRecDepth 100000 in
theorem level_kinds_1.k : compF Go.Proofs.Try.prog Go.Proofs.Try.f150 = some level_kinds_1.c := by kernel_rfl
set_option maxRecDepth 100000 in
theorem level_kinds_2.k : compF Go.Proofs.Try.prog Go.Proofs.Try.f151 = some level_kinds_2.c := by kernel_rfl
set_option maxRecDepth 100000 in
theorem level_kinds_3.k : compF Go.Proofs.Try.prog Go.Proofs.Try.f152 = some level_kinds_3.c := by kernel_rfl
set_option maxRecDepth 100000 in
theorem level_kinds_4.k : compF Go.Proofs.Try.prog Go.Proofs.Try.f153 = some level_kinds_4.c := by kernel_rfl
set_option maxRecDepth 100000 in
theorem level_imax.k : compF Go.Proofs.Try.prog Go.Proofs.Try.f154 = some level_imax.c := by kernel_rfl
set_option maxRecDepth 100000 in
theorem level_kinds_5.k : compF Go.Proofs.Try.prog Go.Proofs.Try.f155 = some level_kinds_5.c := by kernel_rfl
set_option maxRecDepth 100000 in
theorem level_kinds_6.k : compF Go.Proofs.Try.prog Go.Proofs.Try.f156 = some level_kinds_6.c := by kernel_rfl
set_option maxRecDepth 100000 in
theorem slices_IndexFunc_Level.k : compF Go.Proofs.Try.prog Go.Proofs.Try.f157 = some slices_IndexFunc_Level.c := by kernel_rfl
theorem slices_IndexFunc_Level.f : ctx.fns 157 = some slices_IndexFunc_Level.c := rfl
set_option maxRecDepth 100000 in
theorem slices_Max_int.k : compF Go.Proofs.Try.prog Go.Proofs.Try.f161 = some slices_Max_int.c := by kernel_rfl
set_option maxRecDepth 100000 in
theorem slices_ContainsFunc_Clause.k : compF Go.Proofs.Try.prog Go.Proofs.Try.f163 = some slices_ContainsFunc_Clause.c := by kernel_rfl
set_option maxRecDepth 100000 in
theorem ref03_reader_level.k : compF Go.Proofs.Try.prog Go.Proofs.Try.f169 = some ref03_reader_level.c := by kernel_rfl
set_option maxRecDepth 100000 in
theorem octet_digits_1.k : compF Go.Proofs.Try.prog Go.Proofs.Try.f170 = some octet_digits_1.c := by kernel_rfl
theorem octet_digits_1.f : ctx.fns 170 = some octet_digits_1.c := rfl
set_option maxRecDepth 100000 in
theorem lcode_Get.k : compF Go.Proofs.Try.prog Go.Proofs.Try.f171 = some lcode_Get.c := by kernel_rfl
set_option maxRecDepth 100000 in
theorem slices_Repeat_int.k : compF Go.Proofs.Try.prog Go.Proofs.Try.f172 = some slices_Repeat_int.c := by kernel_rfl
set_option maxRecDepth 100000 in
theorem slices_IndexFunc_Clause.k : compF Go.Proofs.Try.prog Go.Proofs.Try.f173 = some slices_IndexFunc_Clause.c := by kernel_rfl
set_option maxRecDepth 100000 in
theorem slices_Concat_Atom.k : compF Go.Proofs.Try.prog Go.Proofs.Try.f175 = some slices_Concat_Atom.c := by kernel_rfl
set_option maxRecDepth 100000 in
theorem ref03_reader_number.k : compF Go.Proofs.Try.prog Go.Proofs.Try.f178 = some ref03_reader_number.c := by kernel_rfl
set_option maxRecDepth 100000 in
theorem lcode_Get_1.k : compF Go.Proofs.Try.prog Go.Proofs.Try.f179 = some lcode_Get_1.c := by kernel_rfl
set_option maxRecDepth 100000 in
theorem lcode_reader_level.k : compF Go.Proofs.Try.prog Go.Proofs.Try.f180 = some lcode_reader_level.c := by kernel_rfl
set_option maxRecDepth 100000 in
theorem math_bits_Mul.k : compF Go.Proofs.Try.prog Go.Proofs.Try.f181 = some math_bits_Mul.c := by kernel_rfl
set_option maxRecDepth 100000 in
theorem slices_Grow_Atom.k : compF Go.Proofs.Try.prog Go.Proofs.Try.f182 = some slices_Grow_Atom.c := by kernel_rfl
set_option maxRecDepth 100000 in
theorem lcode_want.k : compF Go.Proofs.Try.prog Go.Proofs.Try.f184 = some lcode_want.c := by kernel_rfl
set_option maxRecDepth 100000 in
theorem lcode_reader_number.k : compF Go.Proofs.Try.prog Go.Proofs.Try.f185 = some lcode_reader_number.c := by kernel_rfl
set_option maxRecDepth 100000 in
theorem math_bits_Mul32.k : compF Go.Proofs.Try.prog Go.Proofs.Try.f186 = some math_bits_Mul32.c := by kernel_rfl
set_option maxRecDepth 100000 in
theorem math_bits_Mul64.k : compF Go.Proofs.Try.prog Go.Proofs.Try.f187 = some math_bits_Mul64.c := by kernel_rfl
set_option maxRecDepth 100000 in
theorem slices_MinFunc_Atom.k : compF Go.Proofs.Try.prog Go.Proofs.Try.f189 = some slices_MinFunc_Atom.c := by kernel_rfl
theorem lnko : Lnk Go.Proofs.Try.prog ctxo where
  fns := by
    intro f F h
    simp only [ctxo] at h
    split at h
    · cases h; exact ⟨_, Go.Proofs.Try.func3, law14_TcodeGet.k, by decide⟩
    · cases h; exact ⟨_, Go.Proofs.Try.func4, law14_TcodeSmall.k, by decide⟩
    · cases h; exact ⟨_, Go.Proofs.Try.func5, law14_TcodePut.k, by decide⟩
    · cases h; exact ⟨_, Go.Proofs.Try.func6, law14_TcodeDeep.k, by decide⟩
    · cases h; exact ⟨_, Go.Proofs.Try.func7, law14_TcodeBack.k, by decide⟩
    · cases h; exact ⟨_, Go.Proofs.Try.func8, law14_TcodeOnce.k, by decide⟩
    · cases h; exact ⟨_, Go.Proofs.Try.func14, law14_awake.k, by decide⟩
    · cases h; exact ⟨_, Go.Proofs.Try.func15, law14_get.k, by decide⟩
    · cases h; exact ⟨_, Go.Proofs.Try.func16, ref13_Parts.k, by decide⟩
    · cases h; exact ⟨_, Go.Proofs.Try.func17, ref02_Nodes.k, by decide⟩
    · cases h; exact ⟨_, Go.Proofs.Try.func18, law13_Made.k, by decide⟩
    · cases h; exact ⟨_, Go.Proofs.Try.func19, tcode_Put.k, by decide⟩
    · cases h; exact ⟨_, Go.Proofs.Try.func20, ref14_Put.k, by decide⟩
    · cases h; exact ⟨_, Go.Proofs.Try.func21, law14_full.k, by decide⟩
    · cases h; exact ⟨_, Go.Proofs.Try.func22, tcode_Get.k, by decide⟩
    · cases h; exact ⟨_, Go.Proofs.Try.func23, ref13_Same.k, by decide⟩
    · cases h; exact ⟨_, Go.Proofs.Try.func26, law02_Maker_Level.k, by decide⟩
    · cases h; exact ⟨_, Go.Proofs.Try.func29, ref02_Eval.k, by decide⟩
    · cases h; exact ⟨_, Go.Proofs.Try.func33, law13_Bind.k, by decide⟩
    · cases h; exact ⟨_, Go.Proofs.Try.func34, law13_Sort.k, by decide⟩
    · cases h; exact ⟨_, Go.Proofs.Try.func35, law13_Var.k, by decide⟩
    · cases h; exact ⟨_, Go.Proofs.Try.func36, ref14_Get.k, by decide⟩
    · cases h; exact ⟨_, Go.Proofs.Try.func37, law13_Term.k, by decide⟩
    · cases h; exact ⟨_, Go.Proofs.Try.func38, term_Right.k, by decide⟩
    · cases h; exact ⟨_, Go.Proofs.Try.func39, tcode_writer_term.k, by decide⟩
    · cases h; exact ⟨_, Go.Proofs.Try.func40, strings_Builder_String.k, by decide⟩
    · cases h; exact ⟨_, Go.Proofs.Try.func41, ref13_Shape.k, by decide⟩
    · cases h; exact ⟨_, Go.Proofs.Try.func42, ref14_text.k, by decide⟩
    · cases h; exact ⟨_, Go.Proofs.Try.func43, tcode_Get_1.k, by decide⟩
    · cases h; exact ⟨_, Go.Proofs.Try.func44, tcode_reader_term.k, by decide⟩
    · cases h; exact ⟨_, Go.Proofs.Try.func45, ref02_Same.k, by decide⟩
    · cases h; exact ⟨_, Go.Proofs.Try.func51, law02_Maker_Pick.k, by decide⟩
    · cases h; exact ⟨_, Go.Proofs.Try.func52, level_Right.k, by decide⟩
    · cases h; exact ⟨_, Go.Proofs.Try.func57, ref02_Right.k, by decide⟩
    · cases h; exact ⟨_, Go.Proofs.Try.func58, ref02_naturals.k, by decide⟩
    · cases h; exact ⟨_, Go.Proofs.Try.func59, ref02_Value.k, by decide⟩
    · cases h; exact ⟨_, Go.Proofs.Try.func65, ref14_reader_term.k, by decide⟩
    · cases h; exact ⟨_, Go.Proofs.Try.func66, term_room_fits.k, by decide⟩
    · cases h; exact ⟨_, Go.Proofs.Try.func67, tcode_writer_number.k, by decide⟩
    · cases h; exact ⟨_, Go.Proofs.Try.func68, lcode_Put.k, by decide⟩
    · cases h; exact ⟨_, Go.Proofs.Try.func69, strings_Builder_WriteString.k, by decide⟩
    · cases h; exact ⟨_, Go.Proofs.Try.func70, ref13_Right.k, by decide⟩
    · cases h; exact ⟨_, Go.Proofs.Try.func71, ref14_num.k, by decide⟩
    · cases h; exact ⟨_, Go.Proofs.Try.func72, ref03_Put.k, by decide⟩
    · cases h; exact ⟨_, Go.Proofs.Try.func73, tcode_reader_fail.k, by decide⟩
    · cases h; exact ⟨_, Go.Proofs.Try.func74, tcode_reader_number.k, by decide⟩
    · cases h; exact ⟨_, Go.Proofs.Try.func75, tcode_readers.k, by decide⟩
    · cases h; exact ⟨_, Go.Proofs.Try.func77, slices_ContainsFunc_Con.k, by decide⟩
    · cases h; exact ⟨_, Go.Proofs.Try.func84, level_nodes.k, by decide⟩
    · cases h; exact ⟨_, Go.Proofs.Try.func85, level_right.k, by decide⟩
    · cases h; exact ⟨_, Go.Proofs.Try.func88, slices_Collect_Clause.k, by decide⟩
    · cases h; exact ⟨_, Go.Proofs.Try.func91, ref02_right.k, by decide⟩
    · cases h; exact ⟨_, Go.Proofs.Try.func93, ref14_reader_number.k, by decide⟩
    · cases h; exact ⟨_, Go.Proofs.Try.func94, ref14_reader_level.k, by decide⟩
    · cases h; exact ⟨_, Go.Proofs.Try.func95, term_parts.k, by decide⟩
    · cases h; exact ⟨_, Go.Proofs.Try.func96, term_room_right.k, by decide⟩
    · cases h; exact ⟨_, Go.Proofs.Try.func97, octet_Put.k, by decide⟩
    · cases h; exact ⟨_, Go.Proofs.Try.func98, lcode_write.k, by decide⟩
    · cases h; exact ⟨_, Go.Proofs.Try.func99, strings_Builder_copyCheck.k, by decide⟩
    · cases h; exact ⟨_, Go.Proofs.Try.func100, ref13_right.k, by decide⟩
    · cases h; exact ⟨_, Go.Proofs.Try.func101, ref01_Put.k, by decide⟩
    · cases h; exact ⟨_, Go.Proofs.Try.func102, ref03_text.k, by decide⟩
    · cases h; exact ⟨_, Go.Proofs.Try.func103, octet_Get.k, by decide⟩
    · cases h; exact ⟨_, Go.Proofs.Try.func104, tcode_reader_variable.k, by decide⟩
    · cases h; exact ⟨_, Go.Proofs.Try.func105, tcode_reader_sort.k, by decide⟩
    · cases h; exact ⟨_, Go.Proofs.Try.func106, tcode_reader_constant.k, by decide⟩
    · cases h; exact ⟨_, Go.Proofs.Try.func107, tcode_reader_apply.k, by decide⟩
    · cases h; exact ⟨_, Go.Proofs.Try.func108, tcode_reader_bind.k, by decide⟩
    · cases h; exact ⟨_, Go.Proofs.Try.func109, tcode_reader_let.k, by decide⟩
    · cases h; exact ⟨_, Go.Proofs.Try.func110, slices_IndexFunc_Con.k, by decide⟩
    · cases h; exact ⟨_, Go.Proofs.Try.func115, level_kinds.k, by decide⟩
    · cases h; exact ⟨_, Go.Proofs.Try.func116, level_right_1.k, by decide⟩
    · cases h; exact ⟨_, Go.Proofs.Try.func117, level_named.k, by decide⟩
    · cases h; exact ⟨_, Go.Proofs.Try.func118, slices_ContainsFunc_Level.k, by decide⟩
    · cases h; exact ⟨_, Go.Proofs.Try.func122, slices_AppendSeq_Clause.k, by decide⟩
    · cases h; exact ⟨_, Go.Proofs.Try.func127, ref02_kids.k, by decide⟩
    · cases h; exact ⟨_, Go.Proofs.Try.func128, ref01_Get.k, by decide⟩
    · cases h; exact ⟨_, Go.Proofs.Try.func129, ref03_Get.k, by decide⟩
    · cases h; exact ⟨_, Go.Proofs.Try.func130, term_room_right_1.k, by decide⟩
    · cases h; exact ⟨_, Go.Proofs.Try.func131, term_shapes.k, by decide⟩
    · cases h; exact ⟨_, Go.Proofs.Try.func132, term_room_named.k, by decide⟩
    · cases h; exact ⟨_, Go.Proofs.Try.func133, term_below.k, by decide⟩
    · cases h; exact ⟨_, Go.Proofs.Try.func134, octet_digits.k, by decide⟩
    · cases h; exact ⟨_, Go.Proofs.Try.func135, lcode_write_1.k, by decide⟩
    · cases h; exact ⟨_, Go.Proofs.Try.func136, lcode_named.k, by decide⟩
    · cases h; exact ⟨_, Go.Proofs.Try.func138, ref13_kids.k, by decide⟩
    · cases h; exact ⟨_, Go.Proofs.Try.func139, ref13_named.k, by decide⟩
    · cases h; exact ⟨_, Go.Proofs.Try.func140, ref13_binds.k, by decide⟩
    · cases h; exact ⟨_, Go.Proofs.Try.func141, tcode_reader_levels.k, by decide⟩
    · cases h; exact ⟨_, Go.Proofs.Try.func142, tcode_reader_kids.k, by decide⟩
    · cases h; exact ⟨_, Go.Proofs.Try.func150, level_kinds_1.k, by decide⟩
    · cases h; exact ⟨_, Go.Proofs.Try.func151, level_kinds_2.k, by decide⟩
    · cases h; exact ⟨_, Go.Proofs.Try.func152, level_kinds_3.k, by decide⟩
    · cases h; exact ⟨_, Go.Proofs.Try.func153, level_kinds_4.k, by decide⟩
    · cases h; exact ⟨_, Go.Proofs.Try.func154, level_imax.k, by decide⟩
    · cases h; exact ⟨_, Go.Proofs.Try.func155, level_kinds_5.k, by decide⟩
    · cases h; exact ⟨_, Go.Proofs.Try.func156, level_kinds_6.k, by decide⟩
    · cases h; exact ⟨_, Go.Proofs.Try.func157, slices_IndexFunc_Level.k, by decide⟩
    · cases h; exact ⟨_, Go.Proofs.Try.func161, slices_Max_int.k, by decide⟩
    · cases h; exact ⟨_, Go.Proofs.Try.func163, slices_ContainsFunc_Clause.k, by decide⟩
    · cases h; exact ⟨_, Go.Proofs.Try.func169, ref03_reader_level.k, by decide⟩
    · cases h; exact ⟨_, Go.Proofs.Try.func170, octet_digits_1.k, by decide⟩
    · cases h; exact ⟨_, Go.Proofs.Try.func171, lcode_Get.k, by decide⟩
    · cases h; exact ⟨_, Go.Proofs.Try.func172, slices_Repeat_int.k, by decide⟩
    · cases h; exact ⟨_, Go.Proofs.Try.func173, slices_IndexFunc_Clause.k, by decide⟩
    · cases h; exact ⟨_, Go.Proofs.Try.func175, slices_Concat_Atom.k, by decide⟩
    · cases h; exact ⟨_, Go.Proofs.Try.func178, ref03_reader_number.k, by decide⟩
    · cases h; exact ⟨_, Go.Proofs.Try.func179, lcode_Get_1.k, by decide⟩
    · cases h; exact ⟨_, Go.Proofs.Try.func180, lcode_reader_level.k, by decide⟩
    · cases h; exact ⟨_, Go.Proofs.Try.func181, math_bits_Mul.k, by decide⟩
    · cases h; exact ⟨_, Go.Proofs.Try.func182, slices_Grow_Atom.k, by decide⟩
    · cases h; exact ⟨_, Go.Proofs.Try.func184, lcode_want.k, by decide⟩
    · cases h; exact ⟨_, Go.Proofs.Try.func185, lcode_reader_number.k, by decide⟩
    · cases h; exact ⟨_, Go.Proofs.Try.func186, math_bits_Mul32.k, by decide⟩
    · cases h; exact ⟨_, Go.Proofs.Try.func187, math_bits_Mul64.k, by decide⟩
    · cases h; exact ⟨_, Go.Proofs.Try.func189, slices_MinFunc_Atom.k, by decide⟩
    · cases h
  prim := by
    intro f h hh
    simp only [ctxo] at hh
    split at hh
    · cases hh; exact clone_link (t := 57) (et := 3) Go.Proofs.Try.func167 (by decide) ⟨_, _, _, _, _, _, _, _, _, _, _, _, _, rfl, ⟨rfl, rfl, rfl⟩, ⟨rfl, rfl, rfl⟩, ⟨rfl, rfl, rfl⟩, ⟨rfl, rfl, rfl⟩, ⟨rfl, rfl, rfl⟩, ⟨rfl, rfl, rfl⟩, ⟨rfl, rfl, rfl⟩, ⟨rfl, rfl, rfl⟩⟩ rfl rfl Go.Proofs.Try.underlying57 (by kernel_rfl) (by decide) (by kernel_rfl)
    · cases hh
  mixed := by kernel_rfl
set_option maxRecDepth 100000 in
theorem law14_awake.t : told (enter ctxo 3000 law14_awake.n [] (fun _ => none) 0 none) = some (.b true) := by kernel_rfl
theorem lnk : Lnk Go.Proofs.Try.prog ctx where
  fns := by
    intro f F h
    simp only [ctx] at h
    split at h
    · cases h; exact ⟨_, Go.Proofs.Try.func3, law14_TcodeGet.k, by decide⟩
    · cases h; exact ⟨_, Go.Proofs.Try.func4, law14_TcodeSmall.k, by decide⟩
    · cases h; exact ⟨_, Go.Proofs.Try.func5, law14_TcodePut.k, by decide⟩
    · cases h; exact ⟨_, Go.Proofs.Try.func6, law14_TcodeDeep.k, by decide⟩
    · cases h; exact ⟨_, Go.Proofs.Try.func7, law14_TcodeBack.k, by decide⟩
    · cases h; exact ⟨_, Go.Proofs.Try.func8, law14_TcodeOnce.k, by decide⟩
    · cases h; exact ⟨_, Go.Proofs.Try.func15, law14_get.k, by decide⟩
    · cases h; exact ⟨_, Go.Proofs.Try.func16, ref13_Parts.k, by decide⟩
    · cases h; exact ⟨_, Go.Proofs.Try.func17, ref02_Nodes.k, by decide⟩
    · cases h; exact ⟨_, Go.Proofs.Try.func18, law13_Made.k, by decide⟩
    · cases h; exact ⟨_, Go.Proofs.Try.func19, tcode_Put.k, by decide⟩
    · cases h; exact ⟨_, Go.Proofs.Try.func20, ref14_Put.k, by decide⟩
    · cases h; exact ⟨_, Go.Proofs.Try.func21, law14_full.k, by decide⟩
    · cases h; exact ⟨_, Go.Proofs.Try.func22, tcode_Get.k, by decide⟩
    · cases h; exact ⟨_, Go.Proofs.Try.func23, ref13_Same.k, by decide⟩
    · cases h; exact ⟨_, Go.Proofs.Try.func26, law02_Maker_Level.k, by decide⟩
    · cases h; exact ⟨_, Go.Proofs.Try.func29, ref02_Eval.k, by decide⟩
    · cases h; exact ⟨_, Go.Proofs.Try.func33, law13_Bind.k, by decide⟩
    · cases h; exact ⟨_, Go.Proofs.Try.func34, law13_Sort.k, by decide⟩
    · cases h; exact ⟨_, Go.Proofs.Try.func35, law13_Var.k, by decide⟩
    · cases h; exact ⟨_, Go.Proofs.Try.func36, ref14_Get.k, by decide⟩
    · cases h; exact ⟨_, Go.Proofs.Try.func37, law13_Term.k, by decide⟩
    · cases h; exact ⟨_, Go.Proofs.Try.func38, term_Right.k, by decide⟩
    · cases h; exact ⟨_, Go.Proofs.Try.func39, tcode_writer_term.k, by decide⟩
    · cases h; exact ⟨_, Go.Proofs.Try.func40, strings_Builder_String.k, by decide⟩
    · cases h; exact ⟨_, Go.Proofs.Try.func41, ref13_Shape.k, by decide⟩
    · cases h; exact ⟨_, Go.Proofs.Try.func42, ref14_text.k, by decide⟩
    · cases h; exact ⟨_, Go.Proofs.Try.func43, tcode_Get_1.k, by decide⟩
    · cases h; exact ⟨_, Go.Proofs.Try.func44, tcode_reader_term.k, by decide⟩
    · cases h; exact ⟨_, Go.Proofs.Try.func45, ref02_Same.k, by decide⟩
    · cases h; exact ⟨_, Go.Proofs.Try.func51, law02_Maker_Pick.k, by decide⟩
    · cases h; exact ⟨_, Go.Proofs.Try.func52, level_Right.k, by decide⟩
    · cases h; exact ⟨_, Go.Proofs.Try.func57, ref02_Right.k, by decide⟩
    · cases h; exact ⟨_, Go.Proofs.Try.func58, ref02_naturals.k, by decide⟩
    · cases h; exact ⟨_, Go.Proofs.Try.func59, ref02_Value.k, by decide⟩
    · cases h; exact ⟨_, Go.Proofs.Try.func65, ref14_reader_term.k, by decide⟩
    · cases h; exact ⟨_, Go.Proofs.Try.func66, term_room_fits.k, by decide⟩
    · cases h; exact ⟨_, Go.Proofs.Try.func67, tcode_writer_number.k, by decide⟩
    · cases h; exact ⟨_, Go.Proofs.Try.func68, lcode_Put.k, by decide⟩
    · cases h; exact ⟨_, Go.Proofs.Try.func69, strings_Builder_WriteString.k, by decide⟩
    · cases h; exact ⟨_, Go.Proofs.Try.func70, ref13_Right.k, by decide⟩
    · cases h; exact ⟨_, Go.Proofs.Try.func71, ref14_num.k, by decide⟩
    · cases h; exact ⟨_, Go.Proofs.Try.func72, ref03_Put.k, by decide⟩
    · cases h; exact ⟨_, Go.Proofs.Try.func73, tcode_reader_fail.k, by decide⟩
    · cases h; exact ⟨_, Go.Proofs.Try.func74, tcode_reader_number.k, by decide⟩
    · cases h; exact ⟨_, Go.Proofs.Try.func75, tcode_readers.k, by decide⟩
    · cases h; exact ⟨_, Go.Proofs.Try.func77, slices_ContainsFunc_Con.k, by decide⟩
    · cases h; exact ⟨_, Go.Proofs.Try.func84, level_nodes.k, by decide⟩
    · cases h; exact ⟨_, Go.Proofs.Try.func85, level_right.k, by decide⟩
    · cases h; exact ⟨_, Go.Proofs.Try.func88, slices_Collect_Clause.k, by decide⟩
    · cases h; exact ⟨_, Go.Proofs.Try.func91, ref02_right.k, by decide⟩
    · cases h; exact ⟨_, Go.Proofs.Try.func93, ref14_reader_number.k, by decide⟩
    · cases h; exact ⟨_, Go.Proofs.Try.func94, ref14_reader_level.k, by decide⟩
    · cases h; exact ⟨_, Go.Proofs.Try.func95, term_parts.k, by decide⟩
    · cases h; exact ⟨_, Go.Proofs.Try.func96, term_room_right.k, by decide⟩
    · cases h; exact ⟨_, Go.Proofs.Try.func97, octet_Put.k, by decide⟩
    · cases h; exact ⟨_, Go.Proofs.Try.func98, lcode_write.k, by decide⟩
    · cases h; exact ⟨_, Go.Proofs.Try.func99, strings_Builder_copyCheck.k, by decide⟩
    · cases h; exact ⟨_, Go.Proofs.Try.func100, ref13_right.k, by decide⟩
    · cases h; exact ⟨_, Go.Proofs.Try.func101, ref01_Put.k, by decide⟩
    · cases h; exact ⟨_, Go.Proofs.Try.func102, ref03_text.k, by decide⟩
    · cases h; exact ⟨_, Go.Proofs.Try.func103, octet_Get.k, by decide⟩
    · cases h; exact ⟨_, Go.Proofs.Try.func104, tcode_reader_variable.k, by decide⟩
    · cases h; exact ⟨_, Go.Proofs.Try.func105, tcode_reader_sort.k, by decide⟩
    · cases h; exact ⟨_, Go.Proofs.Try.func106, tcode_reader_constant.k, by decide⟩
    · cases h; exact ⟨_, Go.Proofs.Try.func107, tcode_reader_apply.k, by decide⟩
    · cases h; exact ⟨_, Go.Proofs.Try.func108, tcode_reader_bind.k, by decide⟩
    · cases h; exact ⟨_, Go.Proofs.Try.func109, tcode_reader_let.k, by decide⟩
    · cases h; exact ⟨_, Go.Proofs.Try.func110, slices_IndexFunc_Con.k, by decide⟩
    · cases h; exact ⟨_, Go.Proofs.Try.func115, level_kinds.k, by decide⟩
    · cases h; exact ⟨_, Go.Proofs.Try.func116, level_right_1.k, by decide⟩
    · cases h; exact ⟨_, Go.Proofs.Try.func117, level_named.k, by decide⟩
    · cases h; exact ⟨_, Go.Proofs.Try.func118, slices_ContainsFunc_Level.k, by decide⟩
    · cases h; exact ⟨_, Go.Proofs.Try.func122, slices_AppendSeq_Clause.k, by decide⟩
    · cases h; exact ⟨_, Go.Proofs.Try.func127, ref02_kids.k, by decide⟩
    · cases h; exact ⟨_, Go.Proofs.Try.func128, ref01_Get.k, by decide⟩
    · cases h; exact ⟨_, Go.Proofs.Try.func129, ref03_Get.k, by decide⟩
    · cases h; exact ⟨_, Go.Proofs.Try.func130, term_room_right_1.k, by decide⟩
    · cases h; exact ⟨_, Go.Proofs.Try.func131, term_shapes.k, by decide⟩
    · cases h; exact ⟨_, Go.Proofs.Try.func132, term_room_named.k, by decide⟩
    · cases h; exact ⟨_, Go.Proofs.Try.func133, term_below.k, by decide⟩
    · cases h; exact ⟨_, Go.Proofs.Try.func134, octet_digits.k, by decide⟩
    · cases h; exact ⟨_, Go.Proofs.Try.func135, lcode_write_1.k, by decide⟩
    · cases h; exact ⟨_, Go.Proofs.Try.func136, lcode_named.k, by decide⟩
    · cases h; exact ⟨_, Go.Proofs.Try.func138, ref13_kids.k, by decide⟩
    · cases h; exact ⟨_, Go.Proofs.Try.func139, ref13_named.k, by decide⟩
    · cases h; exact ⟨_, Go.Proofs.Try.func140, ref13_binds.k, by decide⟩
    · cases h; exact ⟨_, Go.Proofs.Try.func141, tcode_reader_levels.k, by decide⟩
    · cases h; exact ⟨_, Go.Proofs.Try.func142, tcode_reader_kids.k, by decide⟩
    · cases h; exact ⟨_, Go.Proofs.Try.func150, level_kinds_1.k, by decide⟩
    · cases h; exact ⟨_, Go.Proofs.Try.func151, level_kinds_2.k, by decide⟩
    · cases h; exact ⟨_, Go.Proofs.Try.func152, level_kinds_3.k, by decide⟩
    · cases h; exact ⟨_, Go.Proofs.Try.func153, level_kinds_4.k, by decide⟩
    · cases h; exact ⟨_, Go.Proofs.Try.func154, level_imax.k, by decide⟩
    · cases h; exact ⟨_, Go.Proofs.Try.func155, level_kinds_5.k, by decide⟩
    · cases h; exact ⟨_, Go.Proofs.Try.func156, level_kinds_6.k, by decide⟩
    · cases h; exact ⟨_, Go.Proofs.Try.func157, slices_IndexFunc_Level.k, by decide⟩
    · cases h; exact ⟨_, Go.Proofs.Try.func161, slices_Max_int.k, by decide⟩
    · cases h; exact ⟨_, Go.Proofs.Try.func163, slices_ContainsFunc_Clause.k, by decide⟩
    · cases h; exact ⟨_, Go.Proofs.Try.func169, ref03_reader_level.k, by decide⟩
    · cases h; exact ⟨_, Go.Proofs.Try.func170, octet_digits_1.k, by decide⟩
    · cases h; exact ⟨_, Go.Proofs.Try.func171, lcode_Get.k, by decide⟩
    · cases h; exact ⟨_, Go.Proofs.Try.func172, slices_Repeat_int.k, by decide⟩
    · cases h; exact ⟨_, Go.Proofs.Try.func173, slices_IndexFunc_Clause.k, by decide⟩
    · cases h; exact ⟨_, Go.Proofs.Try.func175, slices_Concat_Atom.k, by decide⟩
    · cases h; exact ⟨_, Go.Proofs.Try.func178, ref03_reader_number.k, by decide⟩
    · cases h; exact ⟨_, Go.Proofs.Try.func179, lcode_Get_1.k, by decide⟩
    · cases h; exact ⟨_, Go.Proofs.Try.func180, lcode_reader_level.k, by decide⟩
    · cases h; exact ⟨_, Go.Proofs.Try.func181, math_bits_Mul.k, by decide⟩
    · cases h; exact ⟨_, Go.Proofs.Try.func182, slices_Grow_Atom.k, by decide⟩
    · cases h; exact ⟨_, Go.Proofs.Try.func184, lcode_want.k, by decide⟩
    · cases h; exact ⟨_, Go.Proofs.Try.func185, lcode_reader_number.k, by decide⟩
    · cases h; exact ⟨_, Go.Proofs.Try.func186, math_bits_Mul32.k, by decide⟩
    · cases h; exact ⟨_, Go.Proofs.Try.func187, math_bits_Mul64.k, by decide⟩
    · cases h; exact ⟨_, Go.Proofs.Try.func189, slices_MinFunc_Atom.k, by decide⟩
    · cases h
  prim := by
    intro f h hh
    simp only [ctx] at hh
    split at hh
    · cases hh; exact clone_link (t := 57) (et := 3) Go.Proofs.Try.func167 (by decide) ⟨_, _, _, _, _, _, _, _, _, _, _, _, _, rfl, ⟨rfl, rfl, rfl⟩, ⟨rfl, rfl, rfl⟩, ⟨rfl, rfl, rfl⟩, ⟨rfl, rfl, rfl⟩, ⟨rfl, rfl, rfl⟩, ⟨rfl, rfl, rfl⟩, ⟨rfl, rfl, rfl⟩, ⟨rfl, rfl, rfl⟩⟩ rfl rfl Go.Proofs.Try.underlying57 (by kernel_rfl) (by decide) (by kernel_rfl)
    · cases hh; exact prim_told lnko law14_awake.t rfl
    · cases hh
  mixed := by kernel_rfl
end Pi


/- The functions of the seat Ytdeichdplcafcaa as code of PI (printed by gen2.py), and that they are what the program has. -/
import Derived.Test.YtdeichdplcafcaaProg
import Derived.Test.YtdeichdplcafcaaFw3
import Derived.Test.YtdeichdplcafcaaFw4
set_option linter.unusedVariables false
namespace Pi
variable {u y z : List V} {m : Sto} {x : Nat}

abbrev law03_LcodeOnce.n : Nat := 13
abbrev ref02_Nodes.n : Nat := 15
abbrev law02_Made.n : Nat := 18
abbrev ref02_Same.n : Nat := 22
abbrev law03_awake.n : Nat := 23
abbrev law03_get.n : Nat := 24
abbrev lcode_Put.n : Nat := 25
abbrev ref03_Put.n : Nat := 26
abbrev law03_full.n : Nat := 27
abbrev lcode_Get.n : Nat := 28
abbrev law02_Maker_Level.n : Nat := 33
abbrev level_Right.n : Nat := 35
abbrev ref03_Get.n : Nat := 41
abbrev lcode_write.n : Nat := 42
abbrev strings_Builder_String.n : Nat := 43
abbrev ref02_Right.n : Nat := 44
abbrev ref03_text.n : Nat := 45
abbrev lcode_Get_1.n : Nat := 46
abbrev lcode_reader_level.n : Nat := 47
abbrev law02_Maker_Pick.n : Nat := 53
abbrev level_nodes.n : Nat := 54
abbrev level_right.n : Nat := 55
abbrev ref03_reader_level.n : Nat := 57
abbrev lcode_write_1.n : Nat := 58
abbrev octet_Put.n : Nat := 59
abbrev strings_Builder_WriteString.n : Nat := 60
abbrev lcode_named.n : Nat := 61
abbrev ref02_right.n : Nat := 62
abbrev ref01_Put.n : Nat := 63
abbrev lcode_want.n : Nat := 64
abbrev lcode_reader_number.n : Nat := 65
abbrev level_kinds.n : Nat := 67
abbrev level_right_1.n : Nat := 68
abbrev level_named.n : Nat := 69
abbrev slices_ContainsFunc_Level.n : Nat := 70
abbrev ref03_reader_number.n : Nat := 71
abbrev octet_digits.n : Nat := 72
abbrev strings_Builder_copyCheck.n : Nat := 73
abbrev ref02_kids.n : Nat := 74
abbrev octet_Get.n : Nat := 75
abbrev level_kinds_1.n : Nat := 76
abbrev level_kinds_2.n : Nat := 77
abbrev level_kinds_3.n : Nat := 78
abbrev level_kinds_4.n : Nat := 79
abbrev level_imax.n : Nat := 80
abbrev level_kinds_5.n : Nat := 81
abbrev level_kinds_6.n : Nat := 82
abbrev slices_IndexFunc_Level.n : Nat := 83
abbrev ref01_Get.n : Nat := 84
abbrev octet_digits_1.n : Nat := 85
def law03_LcodeGet.c : PFun := ⟨(.seq (.reg [.seq [⟨some 4,.mv (.c (.b false)),none⟩]]) (.seq (.reg [.seq [⟨some 5,.ca (.c (.fn (.func law03_awake.n) [] [])) [],none⟩,⟨some 6,.mv (.t 5),none⟩,⟨some 7,.mv (.t 0),some (6,true)⟩,⟨some 8,.ln .s (.t 7),some (6,true)⟩,⟨some 9,.bi .gtr (.t 8) (.c (.i .i64 300)),some (6,true)⟩,⟨some 10,.mv (.t 9),some (6,true)⟩,⟨some 11,.mv (.t 0),some (10,false)⟩,⟨some 12,.mv (.t 1),some (10,false)⟩,⟨some 13,.ca (.c (.fn (.func law03_get.n) [] [])) [.t 11,.t 12],some (10,false)⟩,⟨some 14,.mv (.t 13),some (10,false)⟩,⟨some 15,.mv (.t 0),some (14,true)⟩,⟨some 16,.ca (.c (.fn (.func law03_get.n) [] [])) [.t 15,.c (.i .i64 0)],some (14,true)⟩,⟨some 17,.pk (.t 14) (.t 16) (.c (.b false)),some (10,false)⟩,⟨some 18,.mv (.t 17),some (10,false)⟩,⟨some 19,.mv (.t 0),some (18,true)⟩,⟨some 20,.bi .add (.c (.s (bs [3]))) (.t 19),some (18,true)⟩,⟨some 21,.ca (.c (.fn (.func law03_get.n) [] [])) [.t 20,.c (.i .i64 0)],some (18,true)⟩,⟨some 22,.pk (.t 18) (.t 21) (.c (.b false)),some (10,false)⟩,⟨some 23,.mv (.t 22),some (10,false)⟩,⟨some 24,.mv (.t 0),some (23,true)⟩,⟨some 25,.bi .add (.c (.s (bs [3,1]))) (.t 24),some (23,true)⟩,⟨some 26,.ca (.c (.fn (.func law03_get.n) [] [])) [.t 25,.c (.i .i64 0)],some (23,true)⟩,⟨some 27,.pk (.t 23) (.t 26) (.c (.b false)),some (10,false)⟩,⟨some 28,.pk (.t 10) (.c (.b true)) (.t 27),some (6,true)⟩,⟨some 29,.pk (.t 6) (.t 28) (.c (.b false)),none⟩,⟨some 4,.mv (.t 29),none⟩]]) .ret)), [.t 4]⟩
def law03_LcodeSmall.b1 : PCode := (.seq (.seq (.reg [.seq [⟨some 5,.mv (.t 4),none⟩,⟨some 6,.mv (.t 0),none⟩,⟨some 7,.ln .l (.t 6),none⟩,⟨some 8,.bi .lss (.t 5) (.t 7),none⟩,⟨some 9,.mv (.t 8),none⟩,⟨some 10,.mv (.t 4),some (9,true)⟩,⟨some 11,.bi .lss (.t 10) (.c (.i .i64 20)),some (9,true)⟩,⟨some 12,.pk (.t 9) (.t 11) (.c (.b false)),none⟩]]) (.cond (.t 12) .skip (.exit 0))) (.seq (.block 1 (.reg [.seq [⟨some 15,.mv (.t 3),none⟩,⟨some 16,.bs 1 12 [.i .u8 0] [(0,1,.c (.i .u8 1)),(1,1,.c (.i .u8 2)),(2,1,.c (.i .u8 3)),(3,1,.c (.i .u8 4)),(4,1,.c (.i .u8 5)),(5,1,.c (.i .u8 6)),(6,1,.c (.i .u8 0)),(7,1,.c (.i .u8 7)),(8,1,.c (.i .u8 10)),(9,1,.c (.i .u8 128)),(10,1,.c (.i .u8 1)),(11,1,.c (.i .u8 3))],none⟩,⟨some 17,.mv (.t 0),none⟩,⟨some 18,.mv (.t 4),none⟩,⟨some 19,.ia 1 (.t 17) (.t 18),none⟩,⟨some 20,.ld false 1 (.t 19),none⟩,⟨some 21,.ci .i64 (.t 20),none⟩,⟨some 22,.bi .rem (.t 21) (.c (.i .i64 12)),none⟩,⟨some 23,.ia 1 (.t 16) (.t 22),none⟩,⟨some 24,.ld false 1 (.t 23),none⟩,⟨some 25,.bs 1 1 [.i .u8 0] [(0,1,.t 24)],none⟩,⟨some 26,.cbs (.t 25),none⟩,⟨some 27,.bi .add (.t 15) (.t 26),none⟩,⟨some 3,.mv (.t 27),none⟩]])) (.reg [.seq [⟨some 13,.mv (.t 4),none⟩,⟨some 14,.bi .add (.t 13) (.c (.i .i64 1)),none⟩,⟨some 4,.mv (.t 14),none⟩]])))
def law03_LcodeSmall.c : PFun := ⟨(.seq (.reg [.seq [⟨some 2,.mv (.c (.b false)),none⟩]]) (.seq (.reg [.seq [⟨some 3,.mv (.c (.s (bs []))),none⟩]]) (.seq (.seq (.reg [.seq [⟨some 4,.mv (.c (.i .i64 0)),none⟩]]) (.block 0 (.loop law03_LcodeSmall.b1))) (.seq (.reg [.seq [⟨some 28,.ca (.c (.fn (.func law03_awake.n) [] [])) [],none⟩,⟨some 29,.mv (.t 28),none⟩,⟨some 30,.mv (.t 3),some (29,true)⟩,⟨some 31,.ca (.c (.fn (.func law03_get.n) [] [])) [.t 30,.c (.i .i64 0)],some (29,true)⟩,⟨some 32,.pk (.t 29) (.t 31) (.c (.b false)),none⟩,⟨some 33,.mv (.t 32),none⟩,⟨some 34,.mv (.t 3),some (33,true)⟩,⟨some 35,.bi .add (.c (.s (bs [2]))) (.t 34),some (33,true)⟩,⟨some 36,.bi .add (.t 35) (.c (.s (bs [1,1,1]))),some (33,true)⟩,⟨some 37,.ca (.c (.fn (.func law03_get.n) [] [])) [.t 36,.c (.i .i64 0)],some (33,true)⟩,⟨some 38,.pk (.t 33) (.t 37) (.c (.b false)),none⟩,⟨some 2,.mv (.t 38),none⟩]]) .ret)))), [.t 2]⟩
def law03_LcodePut.b1 : PCode := (.seq (.reg [.seq [⟨some 21,.bi .lss (.t 20) (.t 19),none⟩]]) (.seq (.cond (.t 21) .skip (.exit 0)) (.seq (.block 1 (.seq (.reg [.seq [⟨some 22,.ia 3 (.t 18) (.t 20),none⟩,⟨some 23,.ld true 3 (.t 22),none⟩,⟨some 6,.al [.i .i64 0,.i .i64 0,.ns],none⟩,⟨none,.st 3 (.t 6) (.t 23),none⟩]]) (.seq (.reg [.seq [⟨some 25,.ld true 3 (.t 6),none⟩,⟨some 26,.ca (.c (.fn (.func lcode_Put.n) [] [])) [.t 25],none⟩,⟨some 24,.mv (.t 26),none⟩,⟨some 27,.ex (.t 24) 0,none⟩,⟨some 28,.ex (.t 24) 1,none⟩,⟨some 7,.mv (.t 27),none⟩,⟨some 8,.mv (.t 28),none⟩]]) (.seq (.reg [.seq [⟨some 30,.ld true 3 (.t 6),none⟩,⟨some 31,.ca (.c (.fn (.func ref03_Put.n) [] [])) [.t 30],none⟩,⟨some 29,.mv (.t 31),none⟩,⟨some 32,.ex (.t 29) 0,none⟩,⟨some 33,.ex (.t 29) 1,none⟩,⟨some 9,.mv (.t 32),none⟩,⟨some 10,.mv (.t 33),none⟩]]) (.seq (.reg [.seq [⟨some 34,.mv (.t 7),none⟩,⟨some 35,.mv (.t 9),none⟩,⟨some 36,.bi .neq (.t 34) (.t 35),none⟩,⟨some 37,.mv (.t 36),none⟩,⟨some 38,.mv (.t 8),some (37,false)⟩,⟨some 39,.mv (.t 10),some (37,false)⟩,⟨some 40,.bi .neq (.t 38) (.t 39),some (37,false)⟩,⟨some 41,.pk (.t 37) (.c (.b true)) (.t 40),none⟩]]) (.cond (.t 41) (.seq (.reg [.seq [⟨some 4,.mv (.c (.b false)),none⟩]]) .ret) .skip)))))) (.reg [.seq [⟨some 42,.bi .add (.t 20) (.c (.i .i64 1)),none⟩,⟨some 20,.mv (.t 42),none⟩]]))))
def law03_LcodePut.c : PFun := ⟨(.seq (.reg [.seq [⟨some 2,.bx (.t 0),none⟩,⟨some 4,.mv (.c (.b false)),none⟩]]) (.seq (.seq (.reg [.seq [⟨some 11,.ld true 3 (.t 2),none⟩,⟨some 12,.ca (.c (.fn (.func ref02_Nodes.n) [] [])) [.t 11,.c (.i .i64 301)],none⟩,⟨some 13,.bi .gtr (.t 12) (.c (.i .i64 300)),none⟩]]) (.cond (.t 13) (.seq (.reg [.seq [⟨some 14,.ca (.c (.fn (.func law03_awake.n) [] [])) [],none⟩,⟨some 4,.mv (.t 14),none⟩]]) .ret) .skip)) (.seq (.seq (.reg [.any [⟨some 15,.ld true 3 (.t 2),none⟩,⟨some 16,.mv (.t 1),none⟩,⟨some 17,.ca (.c (.fn (.func law02_Made.n) [] [])) [.t 16,.c (.i .i64 5),.c (.i .i64 10)],none⟩,⟨some 18,.bs 3 2 [.i .i64 0,.i .i64 0,.ns] [(0,3,.t 15),(3,3,.t 17)],none⟩,⟨some 19,.ln .l (.t 18),none⟩,⟨some 20,.mv (.c (.i .i64 0)),none⟩] [(0,2)]]) (.block 0 (.loop law03_LcodePut.b1))) (.seq (.reg [.seq [⟨some 43,.ca (.c (.fn (.func law03_awake.n) [] [])) [],none⟩,⟨some 4,.mv (.t 43),none⟩]]) .ret)))), [.t 4]⟩
def law03_LcodeDeep.b1 : PCode := (.seq (.seq (.reg [.seq [⟨some 11,.mv (.t 6),none⟩,⟨some 12,.mv (.t 0),none⟩,⟨some 13,.ci .i64 (.t 12),none⟩,⟨some 14,.bi .rem (.t 13) (.c (.i .i64 15)),none⟩,⟨some 15,.bi .lss (.t 11) (.t 14),none⟩]]) (.cond (.t 15) .skip (.exit 0))) (.seq (.block 1 (.reg [.seq [⟨some 18,.mv (.t 5),none⟩,⟨some 19,.bi .add (.t 18) (.c (.s (bs [2]))),none⟩,⟨some 5,.mv (.t 19),none⟩]])) (.reg [.seq [⟨some 16,.mv (.t 6),none⟩,⟨some 17,.bi .add (.t 16) (.c (.i .i64 1)),none⟩,⟨some 6,.mv (.t 17),none⟩]])))
def law03_LcodeDeep.b2 : PCode := (.seq (.seq (.reg [.seq [⟨some 30,.mv (.t 7),none⟩,⟨some 31,.bi .lss (.t 30) (.c (.i .i64 63)),none⟩]]) (.cond (.t 31) .skip (.exit 2))) (.seq (.block 3 (.seq (.reg [.seq [⟨some 8,.mv (.c (.s (bs [1]))),none⟩]]) (.seq (.seq (.reg [.seq [⟨some 34,.mv (.t 7),none⟩,⟨some 35,.bi .lss (.t 34) (.c (.i .i64 5)),none⟩]]) (.cond (.t 35) (.reg [.seq [⟨some 8,.mv (.c (.s (bs [3]))),none⟩]]) .skip)) (.reg [.seq [⟨some 36,.mv (.t 5),none⟩,⟨some 37,.mv (.t 8),none⟩,⟨some 38,.bi .add (.t 36) (.t 37),none⟩,⟨some 5,.mv (.t 38),none⟩]])))) (.reg [.seq [⟨some 32,.mv (.t 7),none⟩,⟨some 33,.bi .add (.t 32) (.c (.i .i64 1)),none⟩,⟨some 7,.mv (.t 33),none⟩]])))
def law03_LcodeDeep.c : PFun := ⟨(.seq (.reg [.seq [⟨some 4,.mv (.c (.b false)),none⟩]]) (.seq (.reg [.seq [⟨some 5,.mv (.c (.s (bs []))),none⟩]]) (.seq (.seq (.reg [.seq [⟨some 9,.mv (.t 1),none⟩,⟨some 10,.un .not (.t 9),none⟩]]) (.cond (.t 10) (.seq (.seq (.reg [.seq [⟨some 6,.mv (.c (.i .i64 0)),none⟩]]) (.block 0 (.loop law03_LcodeDeep.b1))) (.seq (.reg [.seq [⟨some 20,.ca (.c (.fn (.func law03_awake.n) [] [])) [],none⟩,⟨some 21,.mv (.t 20),none⟩,⟨some 22,.mv (.t 5),some (21,true)⟩,⟨some 23,.bi .add (.t 22) (.c (.s (bs [1]))),some (21,true)⟩,⟨some 24,.ca (.c (.fn (.func law03_get.n) [] [])) [.t 23,.c (.i .i64 0)],some (21,true)⟩,⟨some 25,.pk (.t 21) (.t 24) (.c (.b false)),none⟩,⟨some 26,.mv (.t 25),none⟩,⟨some 27,.mv (.t 5),some (26,true)⟩,⟨some 28,.ca (.c (.fn (.func law03_get.n) [] [])) [.t 27,.c (.i .i64 0)],some (26,true)⟩,⟨some 29,.pk (.t 26) (.t 28) (.c (.b false)),none⟩,⟨some 4,.mv (.t 29),none⟩]]) .ret)) .skip)) (.seq (.seq (.reg [.seq [⟨some 7,.mv (.c (.i .i64 0)),none⟩]]) (.block 2 (.loop law03_LcodeDeep.b2))) (.seq (.reg [.seq [⟨some 39,.ca (.c (.fn (.func law03_awake.n) [] [])) [],none⟩,⟨some 40,.mv (.t 39),none⟩,⟨some 41,.ca (.c (.fn (.func law03_full.n) [] [])) [.c (.i .i64 6)],some (40,true)⟩,⟨some 42,.mv (.t 5),some (40,true)⟩,⟨some 43,.bi .add (.t 41) (.t 42),some (40,true)⟩,⟨some 44,.ca (.c (.fn (.func law03_get.n) [] [])) [.t 43,.c (.i .i64 0)],some (40,true)⟩,⟨some 45,.pk (.t 40) (.t 44) (.c (.b false)),none⟩,⟨some 46,.mv (.t 45),none⟩,⟨some 47,.ca (.c (.fn (.func law03_full.n) [] [])) [.c (.i .i64 5)],some (46,true)⟩,⟨some 48,.bi .add (.c (.s (bs [3]))) (.t 47),some (46,true)⟩,⟨some 49,.ca (.c (.fn (.func law03_full.n) [] [])) [.c (.i .i64 5)],some (46,true)⟩,⟨some 50,.bi .add (.t 48) (.t 49),some (46,true)⟩,⟨some 51,.ca (.c (.fn (.func law03_get.n) [] [])) [.t 50,.c (.i .i64 0)],some (46,true)⟩,⟨some 52,.pk (.t 46) (.t 51) (.c (.b false)),none⟩,⟨some 53,.mv (.t 52),none⟩,⟨some 54,.mv (.t 0),some (53,true)⟩,⟨some 55,.ci .i64 (.t 54),some (53,true)⟩,⟨some 56,.bi .rem (.t 55) (.c (.i .i64 5)),some (53,true)⟩,⟨some 57,.ca (.c (.fn (.func law03_full.n) [] [])) [.t 56],some (53,true)⟩,⟨some 58,.bi .add (.c (.s (bs [3]))) (.t 57),some (53,true)⟩,⟨some 59,.bi .add (.t 58) (.c (.s (bs [3]))),some (53,true)⟩,⟨some 60,.ca (.c (.fn (.func law03_full.n) [] [])) [.c (.i .i64 5)],some (53,true)⟩,⟨some 61,.bi .add (.t 59) (.t 60),some (53,true)⟩,⟨some 62,.mv (.t 0),some (53,true)⟩,⟨some 63,.ci .i64 (.t 62),some (53,true)⟩,⟨some 64,.bi .rem (.t 63) (.c (.i .i64 3)),some (53,true)⟩,⟨some 65,.bi .sub (.c (.i .i64 5)) (.t 64),some (53,true)⟩,⟨some 66,.ca (.c (.fn (.func law03_full.n) [] [])) [.t 65],some (53,true)⟩,⟨some 67,.bi .add (.t 61) (.t 66),some (53,true)⟩,⟨some 68,.ca (.c (.fn (.func law03_get.n) [] [])) [.t 67,.c (.i .i64 0)],some (53,true)⟩,⟨some 69,.pk (.t 53) (.t 68) (.c (.b false)),none⟩,⟨some 4,.mv (.t 69),none⟩]]) .ret))))), [.t 4]⟩
def law03_LcodeBack.c : PFun := ⟨(.seq (.reg [.seq [⟨some 6,.mv (.c (.b false)),none⟩]]) (.seq (.reg [.seq [⟨some 17,.ca (.c (.fn (.func law03_awake.n) [] [])) [],none⟩,⟨some 7,.mv (.t 17),none⟩]]) (.seq (.seq (.reg [.seq [⟨some 18,.mv (.t 7),none⟩,⟨some 19,.un .not (.t 18),none⟩]]) (.cond (.t 19) (.seq (.reg [.seq [⟨some 6,.mv (.c (.b false)),none⟩]]) .ret) .skip)) (.seq (.seq (.reg [.seq [⟨some 20,.mv (.t 1),none⟩,⟨some 21,.ln .s (.t 20),none⟩,⟨some 22,.bi .gtr (.t 21) (.c (.i .i64 100)),none⟩]]) (.cond (.t 22) (.reg [.seq [⟨some 1,.mv (.c (.s (bs []))),none⟩]]) .skip)) (.seq (.reg [.seq [⟨some 23,.mv (.t 0),none⟩,⟨some 24,.ca (.c (.fn (.func law02_Made.n) [] [])) [.t 23,.c (.i .i64 5),.c (.i .i64 10)],none⟩,⟨some 8,.al [.i .i64 0,.i .i64 0,.ns],none⟩,⟨none,.st 3 (.t 8) (.t 24),none⟩]]) (.seq (.reg [.seq [⟨some 26,.ld true 3 (.t 8),none⟩,⟨some 27,.ca (.c (.fn (.func lcode_Put.n) [] [])) [.t 26],none⟩,⟨some 25,.mv (.t 27),none⟩,⟨some 28,.ex (.t 25) 0,none⟩,⟨some 29,.ex (.t 25) 1,none⟩,⟨some 9,.mv (.t 28),none⟩,⟨some 10,.mv (.t 29),none⟩]]) (.seq (.reg [.seq [⟨some 31,.mv (.t 9),none⟩,⟨some 32,.mv (.t 1),none⟩,⟨some 33,.bi .add (.t 31) (.t 32),none⟩,⟨some 34,.ca (.c (.fn (.func lcode_Get.n) [] [])) [.t 33,.c (.i .i64 0)],none⟩,⟨some 30,.mv (.t 34),none⟩,⟨some 35,.ex (.t 30) 0,none⟩,⟨some 36,.ex (.t 30) 1,none⟩,⟨some 37,.ex (.t 30) 2,none⟩,⟨some 11,.al [.i .i64 0,.i .i64 0,.ns],none⟩,⟨none,.st 3 (.t 11) (.t 35),none⟩,⟨some 12,.mv (.t 36),none⟩,⟨some 13,.mv (.t 37),none⟩]]) (.seq (.seq (.reg [.seq [⟨some 38,.mv (.t 10),none⟩,⟨some 39,.bi .neq (.t 38) (.c (.i .i64 0)),none⟩,⟨some 40,.mv (.t 39),none⟩,⟨some 41,.mv (.t 13),some (40,false)⟩,⟨some 42,.bi .neq (.t 41) (.c (.i .i64 0)),some (40,false)⟩,⟨some 43,.pk (.t 40) (.c (.b true)) (.t 42),none⟩,⟨some 44,.mv (.t 43),none⟩,⟨some 45,.mv (.t 12),some (44,false)⟩,⟨some 46,.mv (.t 9),some (44,false)⟩,⟨some 47,.ln .s (.t 46),some (44,false)⟩,⟨some 48,.bi .neq (.t 45) (.t 47),some (44,false)⟩,⟨some 49,.pk (.t 44) (.c (.b true)) (.t 48),none⟩,⟨some 50,.mv (.t 49),none⟩,⟨some 51,.ld true 3 (.t 8),some (50,false)⟩,⟨some 52,.ld true 3 (.t 11),some (50,false)⟩,⟨some 53,.ca (.c (.fn (.func ref02_Same.n) [] [])) [.t 51,.t 52],some (50,false)⟩,⟨some 54,.un .not (.t 53),some (50,false)⟩,⟨some 55,.pk (.t 50) (.c (.b true)) (.t 54),none⟩]]) (.cond (.t 55) (.seq (.reg [.seq [⟨some 6,.mv (.c (.b false)),none⟩]]) .ret) .skip)) (.seq (.reg [.seq [⟨some 57,.mv (.t 9),none⟩,⟨some 58,.mv (.t 2),none⟩,⟨some 59,.ci .i64 (.t 58),none⟩,⟨some 60,.mv (.t 9),none⟩,⟨some 61,.ln .s (.t 60),none⟩,⟨some 62,.bi .rem (.t 59) (.t 61),none⟩,⟨some 63,.ss (.t 57) none (some (.t 62)),none⟩,⟨some 64,.ca (.c (.fn (.func lcode_Get.n) [] [])) [.t 63,.c (.i .i64 0)],none⟩,⟨some 56,.mv (.t 64),none⟩,⟨some 65,.ex (.t 56) 0,none⟩,⟨some 66,.ex (.t 56) 1,none⟩,⟨some 67,.ex (.t 56) 2,none⟩,⟨some 14,.al [.i .i64 0,.i .i64 0,.ns],none⟩,⟨none,.st 3 (.t 14) (.t 65),none⟩,⟨some 15,.mv (.t 66),none⟩,⟨some 16,.mv (.t 67),none⟩]]) (.seq (.reg [.seq [⟨some 68,.mv (.t 7),none⟩,⟨some 69,.mv (.t 68),none⟩,⟨some 70,.mv (.t 16),some (69,true)⟩,⟨some 71,.bi .eql (.t 70) (.c (.i .i64 21)),some (69,true)⟩,⟨some 72,.pk (.t 69) (.t 71) (.c (.b false)),none⟩,⟨some 6,.mv (.t 72),none⟩]]) .ret)))))))))), [.t 6]⟩
def law03_LcodeOnce.b1 : PCode := (.seq (.seq (.reg [.seq [⟨some 23,.mv (.t 8),none⟩,⟨some 24,.mv (.t 1),none⟩,⟨some 25,.ln .l (.t 24),none⟩,⟨some 26,.bi .lss (.t 23) (.t 25),none⟩,⟨some 27,.mv (.t 26),none⟩,⟨some 28,.mv (.t 8),some (27,true)⟩,⟨some 29,.bi .lss (.t 28) (.c (.i .i64 30)),some (27,true)⟩,⟨some 30,.pk (.t 27) (.t 29) (.c (.b false)),none⟩]]) (.cond (.t 30) .skip (.exit 0))) (.seq (.block 1 (.reg [.seq [⟨some 33,.mv (.t 0),none⟩,⟨some 34,.mv (.t 1),none⟩,⟨some 35,.mv (.t 8),none⟩,⟨some 36,.ia 1 (.t 34) (.t 35),none⟩,⟨some 37,.ld false 1 (.t 36),none⟩,⟨some 38,.bi .rem (.t 37) (.c (.i .u8 6)),none⟩,⟨some 39,.bi .add (.c (.i .u8 1)) (.t 38),none⟩,⟨some 40,.bs 1 1 [.i .u8 0] [(0,1,.t 39)],none⟩,⟨some 41,.cbs (.t 40),none⟩,⟨some 42,.bi .add (.t 33) (.t 41),none⟩,⟨some 0,.mv (.t 42),none⟩]])) (.reg [.seq [⟨some 31,.mv (.t 8),none⟩,⟨some 32,.bi .add (.t 31) (.c (.i .i64 1)),none⟩,⟨some 8,.mv (.t 32),none⟩]])))
def law03_LcodeOnce.c : PFun := ⟨(.seq (.reg [.seq [⟨some 6,.mv (.c (.b false)),none⟩]]) (.seq (.reg [.seq [⟨some 14,.ca (.c (.fn (.func law03_awake.n) [] [])) [],none⟩,⟨some 7,.mv (.t 14),none⟩]]) (.seq (.seq (.reg [.seq [⟨some 15,.mv (.t 7),none⟩,⟨some 16,.un .not (.t 15),none⟩]]) (.cond (.t 16) (.seq (.reg [.seq [⟨some 6,.mv (.c (.b false)),none⟩]]) .ret) .skip)) (.seq (.seq (.reg [.seq [⟨some 17,.mv (.t 2),none⟩,⟨some 18,.mv (.t 17),none⟩,⟨some 19,.mv (.t 0),some (18,false)⟩,⟨some 20,.ln .s (.t 19),some (18,false)⟩,⟨some 21,.bi .gtr (.t 20) (.c (.i .i64 300)),some (18,false)⟩,⟨some 22,.pk (.t 18) (.c (.b true)) (.t 21),none⟩]]) (.cond (.t 22) (.seq (.reg [.seq [⟨some 0,.mv (.c (.s (bs []))),none⟩]]) (.seq (.reg [.seq [⟨some 8,.mv (.c (.i .i64 0)),none⟩]]) (.block 0 (.loop law03_LcodeOnce.b1)))) .skip)) (.seq (.reg [.seq [⟨some 44,.mv (.t 0),none⟩,⟨some 45,.ca (.c (.fn (.func lcode_Get.n) [] [])) [.t 44,.c (.i .i64 0)],none⟩,⟨some 43,.mv (.t 45),none⟩,⟨some 46,.ex (.t 43) 0,none⟩,⟨some 47,.ex (.t 43) 1,none⟩,⟨some 48,.ex (.t 43) 2,none⟩,⟨some 9,.al [.i .i64 0,.i .i64 0,.ns],none⟩,⟨none,.st 3 (.t 9) (.t 46),none⟩,⟨some 10,.mv (.t 47),none⟩,⟨some 11,.mv (.t 48),none⟩]]) (.seq (.seq (.reg [.seq [⟨some 49,.mv (.t 11),none⟩,⟨some 50,.bi .neq (.t 49) (.c (.i .i64 0)),none⟩]]) (.cond (.t 50) (.seq (.reg [.seq [⟨some 51,.mv (.t 7),none⟩,⟨some 52,.mv (.t 51),none⟩,⟨some 53,.mv (.t 10),some (52,true)⟩,⟨some 54,.bi .eql (.t 53) (.c (.i .i64 0)),some (52,true)⟩,⟨some 55,.pk (.t 52) (.t 54) (.c (.b false)),none⟩,⟨some 56,.mv (.t 55),none⟩,⟨some 57,.fa 0 (.t 9),some (56,true)⟩,⟨some 58,.ld false 1 (.t 57),some (56,true)⟩,⟨some 59,.bi .eql (.t 58) (.c (.i .i64 0)),some (56,true)⟩,⟨some 60,.pk (.t 56) (.t 59) (.c (.b false)),none⟩,⟨some 6,.mv (.t 60),none⟩]]) .ret) .skip)) (.seq (.reg [.seq [⟨some 62,.ld true 3 (.t 9),none⟩,⟨some 63,.ca (.c (.fn (.func lcode_Put.n) [] [])) [.t 62],none⟩,⟨some 61,.mv (.t 63),none⟩,⟨some 64,.ex (.t 61) 0,none⟩,⟨some 65,.ex (.t 61) 1,none⟩,⟨some 12,.mv (.t 64),none⟩,⟨some 13,.mv (.t 65),none⟩]]) (.seq (.reg [.seq [⟨some 66,.mv (.t 7),none⟩,⟨some 67,.mv (.t 66),none⟩,⟨some 68,.mv (.t 13),some (67,true)⟩,⟨some 69,.bi .eql (.t 68) (.c (.i .i64 0)),some (67,true)⟩,⟨some 70,.pk (.t 67) (.t 69) (.c (.b false)),none⟩,⟨some 71,.mv (.t 70),none⟩,⟨some 72,.mv (.t 10),some (71,true)⟩,⟨some 73,.bi .geq (.t 72) (.c (.i .i64 1)),some (71,true)⟩,⟨some 74,.pk (.t 71) (.t 73) (.c (.b false)),none⟩,⟨some 75,.mv (.t 74),none⟩,⟨some 76,.mv (.t 10),some (75,true)⟩,⟨some 77,.mv (.t 0),some (75,true)⟩,⟨some 78,.ln .s (.t 77),some (75,true)⟩,⟨some 79,.bi .leq (.t 76) (.t 78),some (75,true)⟩,⟨some 80,.pk (.t 75) (.t 79) (.c (.b false)),none⟩,⟨some 81,.mv (.t 80),none⟩,⟨some 82,.mv (.t 0),some (81,true)⟩,⟨some 83,.mv (.t 10),some (81,true)⟩,⟨some 84,.ss (.t 82) none (some (.t 83)),some (81,true)⟩,⟨some 85,.mv (.t 12),some (81,true)⟩,⟨some 86,.bi .eql (.t 84) (.t 85),some (81,true)⟩,⟨some 87,.pk (.t 81) (.t 86) (.c (.b false)),none⟩,⟨some 6,.mv (.t 87),none⟩]]) .ret)))))))), [.t 6]⟩
def ref02_Nodes.b1 : PCode := (.seq (.seq (.reg [.seq [⟨some 7,.mv (.t 6),none⟩,⟨some 8,.fa 2 (.t 2),none⟩,⟨some 9,.ld false 1 (.t 8),none⟩,⟨some 10,.ln .l (.t 9),none⟩,⟨some 11,.bi .lss (.t 7) (.t 10),none⟩,⟨some 12,.mv (.t 11),none⟩,⟨some 13,.mv (.t 5),some (12,true)⟩,⟨some 14,.mv (.t 1),some (12,true)⟩,⟨some 15,.bi .lss (.t 13) (.t 14),some (12,true)⟩,⟨some 16,.pk (.t 12) (.t 15) (.c (.b false)),none⟩]]) (.cond (.t 16) .skip (.exit 0))) (.seq (.block 1 (.reg [.seq [⟨some 19,.mv (.t 5),none⟩,⟨some 20,.fa 2 (.t 2),none⟩,⟨some 21,.ld false 1 (.t 20),none⟩,⟨some 22,.mv (.t 6),none⟩,⟨some 23,.ia 3 (.t 21) (.t 22),none⟩,⟨some 24,.ld true 3 (.t 23),none⟩,⟨some 25,.mv (.t 1),none⟩,⟨some 26,.mv (.t 5),none⟩,⟨some 27,.bi .sub (.t 25) (.t 26),none⟩,⟨some 28,.ca (.c (.fn (.func ref02_Nodes.n) [] [])) [.t 24,.t 27],none⟩,⟨some 29,.bi .add (.t 19) (.t 28),none⟩,⟨some 5,.mv (.t 29),none⟩]])) (.reg [.seq [⟨some 17,.mv (.t 6),none⟩,⟨some 18,.bi .add (.t 17) (.c (.i .i64 1)),none⟩,⟨some 6,.mv (.t 18),none⟩]])))
def ref02_Nodes.c : PFun := ⟨(.seq (.reg [.seq [⟨some 2,.bx (.t 0),none⟩,⟨some 4,.mv (.c (.i .i64 0)),none⟩]]) (.seq (.reg [.seq [⟨some 5,.mv (.c (.i .i64 1)),none⟩]]) (.seq (.seq (.reg [.seq [⟨some 6,.mv (.c (.i .i64 0)),none⟩]]) (.block 0 (.loop ref02_Nodes.b1))) (.seq (.reg [.seq [⟨some 30,.mv (.t 5),none⟩,⟨some 4,.mv (.t 30),none⟩]]) .ret)))), [.t 4]⟩
def law02_Made.c : PFun := ⟨(.seq (.reg [.seq [⟨some 6,.al [.i .i64 0,.i .i64 0,.ns],none⟩]]) (.seq (.reg [.seq [⟨some 8,.mv (.t 0),none⟩,⟨some 9,.bd [.ns,.i .i64 0] [(0,1,.t 8)],none⟩,⟨some 10,.bx (.t 9),none⟩,⟨some 7,.mv (.t 10),none⟩]]) (.seq (.reg [.seq [⟨some 11,.mv (.t 7),none⟩,⟨some 12,.mv (.t 1),none⟩,⟨some 13,.mv (.t 2),none⟩,⟨some 14,.ca (.c (.fn (.func law02_Maker_Level.n) [] [])) [.t 11,.t 12,.t 13,.c (.i .i64 5)],none⟩,⟨none,.st 3 (.t 6) (.t 14),none⟩]]) .ret))), [.c 6 true 3]⟩
def ref02_Same.b1 : PCode := (.seq (.seq (.reg [.seq [⟨some 27,.mv (.t 5),none⟩,⟨some 28,.fa 2 (.t 2),none⟩,⟨some 29,.ld false 1 (.t 28),none⟩,⟨some 30,.ln .l (.t 29),none⟩,⟨some 31,.bi .lss (.t 27) (.t 30),none⟩]]) (.cond (.t 31) .skip (.exit 0))) (.seq (.block 1 (.seq (.reg [.any [⟨some 34,.fa 2 (.t 2),none⟩,⟨some 35,.ld false 1 (.t 34),none⟩,⟨some 36,.mv (.t 5),none⟩,⟨some 37,.ia 3 (.t 35) (.t 36),none⟩,⟨some 38,.ld true 3 (.t 37),none⟩,⟨some 39,.fa 2 (.t 3),none⟩,⟨some 40,.ld false 1 (.t 39),none⟩,⟨some 41,.mv (.t 5),none⟩,⟨some 42,.ia 3 (.t 40) (.t 41),none⟩,⟨some 43,.ld true 3 (.t 42),none⟩] [],.seq [⟨some 44,.ca (.c (.fn (.func ref02_Same.n) [] [])) [.t 38,.t 43],none⟩],.seq [⟨some 45,.un .not (.t 44),none⟩]]) (.cond (.t 45) (.seq (.reg [.seq [⟨some 4,.mv (.c (.b false)),none⟩]]) .ret) .skip))) (.reg [.seq [⟨some 32,.mv (.t 5),none⟩,⟨some 33,.bi .add (.t 32) (.c (.i .i64 1)),none⟩,⟨some 5,.mv (.t 33),none⟩]])))
def ref02_Same.c : PFun := ⟨(.seq (.reg [.seq [⟨some 2,.bx (.t 0),none⟩,⟨some 3,.bx (.t 1),none⟩,⟨some 4,.mv (.c (.b false)),none⟩]]) (.seq (.seq (.reg [.seq [⟨some 6,.fa 0 (.t 2),none⟩,⟨some 7,.ld false 1 (.t 6),none⟩,⟨some 8,.fa 0 (.t 3),none⟩,⟨some 9,.ld false 1 (.t 8),none⟩,⟨some 10,.bi .neq (.t 7) (.t 9),none⟩,⟨some 11,.mv (.t 10),none⟩,⟨some 12,.fa 1 (.t 2),some (11,false)⟩,⟨some 13,.ld false 1 (.t 12),some (11,false)⟩,⟨some 14,.fa 1 (.t 3),some (11,false)⟩,⟨some 15,.ld false 1 (.t 14),some (11,false)⟩,⟨some 16,.bi .neq (.t 13) (.t 15),some (11,false)⟩,⟨some 17,.pk (.t 11) (.c (.b true)) (.t 16),none⟩,⟨some 18,.mv (.t 17),none⟩,⟨some 19,.fa 2 (.t 2),some (18,false)⟩,⟨some 20,.ld false 1 (.t 19),some (18,false)⟩,⟨some 21,.ln .l (.t 20),some (18,false)⟩,⟨some 22,.fa 2 (.t 3),some (18,false)⟩,⟨some 23,.ld false 1 (.t 22),some (18,false)⟩,⟨some 24,.ln .l (.t 23),some (18,false)⟩,⟨some 25,.bi .neq (.t 21) (.t 24),some (18,false)⟩,⟨some 26,.pk (.t 18) (.c (.b true)) (.t 25),none⟩]]) (.cond (.t 26) (.seq (.reg [.seq [⟨some 4,.mv (.c (.b false)),none⟩]]) .ret) .skip)) (.seq (.seq (.reg [.seq [⟨some 5,.mv (.c (.i .i64 0)),none⟩]]) (.block 0 (.loop ref02_Same.b1))) (.seq (.reg [.seq [⟨some 4,.mv (.c (.b true)),none⟩]]) .ret)))), [.t 4]⟩
def law03_awake.c : PFun := ⟨(.seq (.reg [.seq [⟨some 0,.mv (.c (.b false)),none⟩]]) (.seq (.reg [.seq [⟨some 15,.bd [.i .i64 0,.i .i64 0,.ns] [(0,1,.c (.i .i64 5)),(1,1,.c (.i .i64 3))],none⟩,⟨some 16,.bs 3 1 [.i .i64 0,.i .i64 0,.ns] [(0,3,.t 15)],none⟩,⟨some 17,.bd [.i .i64 0,.i .i64 0,.ns] [(0,1,.c (.i .i64 2)),(2,1,.t 16)],none⟩,⟨some 1,.al [.i .i64 0,.i .i64 0,.ns],none⟩,⟨none,.st 3 (.t 1) (.t 17),none⟩]]) (.seq (.reg [.seq [⟨some 19,.ld true 3 (.t 1),none⟩,⟨some 20,.ca (.c (.fn (.func lcode_Put.n) [] [])) [.t 19],none⟩,⟨some 18,.mv (.t 20),none⟩,⟨some 21,.ex (.t 18) 0,none⟩,⟨some 22,.ex (.t 18) 1,none⟩,⟨some 2,.mv (.t 21),none⟩,⟨some 3,.mv (.t 22),none⟩]]) (.seq (.reg [.seq [⟨some 24,.mv (.t 2),none⟩,⟨some 25,.bi .add (.c (.s (bs [120]))) (.t 24),none⟩,⟨some 26,.bi .add (.t 25) (.c (.s (bs [121]))),none⟩,⟨some 27,.ca (.c (.fn (.func lcode_Get.n) [] [])) [.t 26,.c (.i .i64 1)],none⟩,⟨some 23,.mv (.t 27),none⟩,⟨some 28,.ex (.t 23) 0,none⟩,⟨some 29,.ex (.t 23) 1,none⟩,⟨some 30,.ex (.t 23) 2,none⟩,⟨some 4,.al [.i .i64 0,.i .i64 0,.ns],none⟩,⟨none,.st 3 (.t 4) (.t 28),none⟩,⟨some 5,.mv (.t 29),none⟩,⟨some 6,.mv (.t 30),none⟩]]) (.seq (.reg [.seq [⟨some 32,.ca (.c (.fn (.func lcode_Get.n) [] [])) [.c (.s (bs [5,5])),.c (.i .i64 0)],none⟩,⟨some 31,.mv (.t 32),none⟩,⟨some 33,.ex (.t 31) 0,none⟩,⟨some 34,.ex (.t 31) 1,none⟩,⟨some 35,.ex (.t 31) 2,none⟩,⟨some 7,.al [.i .i64 0,.i .i64 0,.ns],none⟩,⟨none,.st 3 (.t 7) (.t 33),none⟩,⟨some 8,.mv (.t 34),none⟩,⟨some 9,.mv (.t 35),none⟩]]) (.seq (.reg [.seq [⟨some 37,.ca (.c (.fn (.func lcode_Get.n) [] [])) [.c (.s (bs [2])),.c (.i .i64 0)],none⟩,⟨some 36,.mv (.t 37),none⟩,⟨some 38,.ex (.t 36) 0,none⟩,⟨some 39,.ex (.t 36) 1,none⟩,⟨some 40,.ex (.t 36) 2,none⟩,⟨some 10,.al [.i .i64 0,.i .i64 0,.ns],none⟩,⟨none,.st 3 (.t 10) (.t 38),none⟩,⟨some 11,.mv (.t 39),none⟩,⟨some 12,.mv (.t 40),none⟩]]) (.seq (.reg [.seq [⟨some 42,.bd [.i .i64 0,.i .i64 0,.ns] [],none⟩,⟨some 43,.ca (.c (.fn (.func lcode_Put.n) [] [])) [.t 42],none⟩,⟨some 41,.mv (.t 43),none⟩,⟨some 44,.ex (.t 41) 0,none⟩,⟨some 45,.ex (.t 41) 1,none⟩,⟨some 13,.mv (.t 44),none⟩,⟨some 14,.mv (.t 45),none⟩]]) (.seq (.reg [.seq [⟨some 46,.mv (.t 3),none⟩,⟨some 47,.bi .eql (.t 46) (.c (.i .i64 0)),none⟩,⟨some 48,.mv (.t 47),none⟩,⟨some 49,.mv (.t 2),some (48,true)⟩,⟨some 50,.bi .eql (.t 49) (.c (.s (bs [2,5,3]))),some (48,true)⟩,⟨some 51,.pk (.t 48) (.t 50) (.c (.b false)),none⟩,⟨some 52,.mv (.t 51),none⟩,⟨some 53,.mv (.t 6),some (52,true)⟩,⟨some 54,.bi .eql (.t 53) (.c (.i .i64 0)),some (52,true)⟩,⟨some 55,.pk (.t 52) (.t 54) (.c (.b false)),none⟩,⟨some 56,.mv (.t 55),none⟩,⟨some 57,.mv (.t 5),some (56,true)⟩,⟨some 58,.bi .eql (.t 57) (.c (.i .i64 4)),some (56,true)⟩,⟨some 59,.pk (.t 56) (.t 58) (.c (.b false)),none⟩,⟨some 60,.mv (.t 59),none⟩,⟨some 61,.ld true 3 (.t 4),some (60,true)⟩,⟨some 62,.ld true 3 (.t 1),some (60,true)⟩,⟨some 63,.ca (.c (.fn (.func ref02_Same.n) [] [])) [.t 61,.t 62],some (60,true)⟩,⟨some 64,.pk (.t 60) (.t 63) (.c (.b false)),none⟩,⟨some 65,.mv (.t 64),none⟩,⟨some 66,.mv (.t 9),some (65,true)⟩,⟨some 67,.bi .eql (.t 66) (.c (.i .i64 20)),some (65,true)⟩,⟨some 68,.pk (.t 65) (.t 67) (.c (.b false)),none⟩,⟨some 69,.mv (.t 68),none⟩,⟨some 70,.mv (.t 12),some (69,true)⟩,⟨some 71,.bi .eql (.t 70) (.c (.i .i64 21)),some (69,true)⟩,⟨some 72,.pk (.t 69) (.t 71) (.c (.b false)),none⟩,⟨some 73,.mv (.t 72),none⟩,⟨some 74,.mv (.t 14),some (73,true)⟩,⟨some 75,.bi .eql (.t 74) (.c (.i .i64 1)),some (73,true)⟩,⟨some 76,.pk (.t 73) (.t 75) (.c (.b false)),none⟩,⟨some 0,.mv (.t 76),none⟩]]) .ret)))))))), [.t 0]⟩
def law03_get.c : PFun := ⟨(.seq (.reg [.seq [⟨some 4,.mv (.c (.b false)),none⟩]]) (.seq (.reg [.seq [⟨some 12,.mv (.t 0),none⟩,⟨some 13,.mv (.t 1),none⟩,⟨some 14,.ca (.c (.fn (.func lcode_Get.n) [] [])) [.t 12,.t 13],none⟩,⟨some 11,.mv (.t 14),none⟩,⟨some 15,.ex (.t 11) 0,none⟩,⟨some 16,.ex (.t 11) 1,none⟩,⟨some 17,.ex (.t 11) 2,none⟩,⟨some 5,.al [.i .i64 0,.i .i64 0,.ns],none⟩,⟨none,.st 3 (.t 5) (.t 15),none⟩,⟨some 6,.mv (.t 16),none⟩,⟨some 7,.mv (.t 17),none⟩]]) (.seq (.reg [.seq [⟨some 19,.mv (.t 0),none⟩,⟨some 20,.mv (.t 1),none⟩,⟨some 21,.ca (.c (.fn (.func ref03_Get.n) [] [])) [.t 19,.t 20],none⟩,⟨some 18,.mv (.t 21),none⟩,⟨some 22,.ex (.t 18) 0,none⟩,⟨some 23,.ex (.t 18) 1,none⟩,⟨some 24,.ex (.t 18) 2,none⟩,⟨some 8,.al [.i .i64 0,.i .i64 0,.ns],none⟩,⟨none,.st 3 (.t 8) (.t 22),none⟩,⟨some 9,.mv (.t 23),none⟩,⟨some 10,.mv (.t 24),none⟩]]) (.seq (.reg [.seq [⟨some 25,.ld true 3 (.t 5),none⟩,⟨some 26,.ld true 3 (.t 8),none⟩,⟨some 27,.ca (.c (.fn (.func ref02_Same.n) [] [])) [.t 25,.t 26],none⟩,⟨some 28,.mv (.t 27),none⟩,⟨some 29,.mv (.t 6),some (28,true)⟩,⟨some 30,.mv (.t 9),some (28,true)⟩,⟨some 31,.bi .eql (.t 29) (.t 30),some (28,true)⟩,⟨some 32,.pk (.t 28) (.t 31) (.c (.b false)),none⟩,⟨some 33,.mv (.t 32),none⟩,⟨some 34,.mv (.t 7),some (33,true)⟩,⟨some 35,.mv (.t 10),some (33,true)⟩,⟨some 36,.bi .eql (.t 34) (.t 35),some (33,true)⟩,⟨some 37,.pk (.t 33) (.t 36) (.c (.b false)),none⟩,⟨some 4,.mv (.t 37),none⟩]]) .ret)))), [.t 4]⟩
def lcode_Put.c : PFun := ⟨(.seq (.reg [.seq [⟨some 1,.bx (.t 0),none⟩,⟨some 2,.mv (.c (.s (bs []))),none⟩,⟨some 3,.mv (.c (.i .i64 0)),none⟩]]) (.seq (.seq (.reg [.seq [⟨some 5,.ld true 3 (.t 1),none⟩,⟨some 6,.ca (.c (.fn (.func level_Right.n) [] [])) [.t 5,.c (.i .i64 5),.c (.i .i64 10)],none⟩,⟨some 7,.un .not (.t 6),none⟩]]) (.cond (.t 7) (.seq (.reg [.seq [⟨some 2,.mv (.c (.s (bs []))),none⟩,⟨some 3,.mv (.c (.i .i64 1)),none⟩]]) .ret) .skip)) (.seq (.reg [.seq [⟨some 4,.ub (.alt 82 [.np,.ns]) (.c .un) (.c .un),none⟩]]) (.seq (.reg [.seq [⟨some 8,.ld true 3 (.t 1),none⟩,⟨some 9,.ca (.c (.fn (.func lcode_write.n) [] [])) [.t 4,.t 8],none⟩]]) (.seq (.reg [.seq [⟨some 10,.ca (.c (.fn (.func strings_Builder_String.n) [] [])) [.t 4],none⟩,⟨some 2,.mv (.t 10),none⟩,⟨some 3,.mv (.c (.i .i64 0)),none⟩]]) .ret))))), [.t 2,.t 3]⟩
def ref03_Put.c : PFun := ⟨(.seq (.reg [.seq [⟨some 1,.bx (.t 0),none⟩,⟨some 2,.mv (.c (.s (bs []))),none⟩,⟨some 3,.mv (.c (.i .i64 0)),none⟩]]) (.seq (.seq (.reg [.seq [⟨some 4,.ld true 3 (.t 1),none⟩,⟨some 5,.ca (.c (.fn (.func ref02_Right.n) [] [])) [.t 4,.c (.i .i64 5),.c (.i .i64 10)],none⟩,⟨some 6,.un .not (.t 5),none⟩]]) (.cond (.t 6) (.seq (.reg [.seq [⟨some 2,.mv (.c (.s (bs []))),none⟩,⟨some 3,.mv (.c (.i .i64 1)),none⟩]]) .ret) .skip)) (.seq (.reg [.seq [⟨some 7,.ld true 3 (.t 1),none⟩,⟨some 8,.ca (.c (.fn (.func ref03_text.n) [] [])) [.t 7],none⟩,⟨some 2,.mv (.t 8),none⟩,⟨some 3,.mv (.c (.i .i64 0)),none⟩]]) .ret))), [.t 2,.t 3]⟩
def law03_full.c : PFun := ⟨(.seq (.reg [.seq [⟨some 2,.mv (.c (.s (bs []))),none⟩]]) (.seq (.seq (.reg [.seq [⟨some 3,.mv (.t 0),none⟩,⟨some 4,.bi .lss (.t 3) (.c (.i .i64 1)),none⟩]]) (.cond (.t 4) (.seq (.reg [.seq [⟨some 2,.mv (.c (.s (bs [1]))),none⟩]]) .ret) .skip)) (.seq (.reg [.seq [⟨some 5,.mv (.t 0),none⟩,⟨some 6,.bi .sub (.t 5) (.c (.i .i64 1)),none⟩,⟨some 7,.ca (.c (.fn (.func law03_full.n) [] [])) [.t 6],none⟩,⟨some 8,.bi .add (.c (.s (bs [3]))) (.t 7),none⟩,⟨some 9,.mv (.t 0),none⟩,⟨some 10,.bi .sub (.t 9) (.c (.i .i64 1)),none⟩,⟨some 11,.ca (.c (.fn (.func law03_full.n) [] [])) [.t 10],none⟩,⟨some 12,.bi .add (.t 8) (.t 11),none⟩,⟨some 2,.mv (.t 12),none⟩]]) .ret))), [.t 2]⟩
def lcode_Get.c : PFun := ⟨(.seq (.reg [.seq [⟨some 4,.al [.i .i64 0,.i .i64 0,.ns],none⟩,⟨some 5,.al [.i .i64 0],none⟩,⟨some 6,.al [.i .i64 0],none⟩]]) (.seq (.seq (.reg [.seq [⟨some 8,.mv (.t 1),none⟩,⟨some 9,.bi .lss (.t 8) (.c (.i .i64 0)),none⟩,⟨some 10,.mv (.t 9),none⟩,⟨some 11,.mv (.t 1),some (10,false)⟩,⟨some 12,.mv (.t 0),some (10,false)⟩,⟨some 13,.ln .s (.t 12),some (10,false)⟩,⟨some 14,.bi .gtr (.t 11) (.t 13),some (10,false)⟩,⟨some 15,.pk (.t 10) (.c (.b true)) (.t 14),none⟩]]) (.cond (.t 15) (.seq (.reg [.seq [⟨some 16,.ld true 3 (.t 4),none⟩,⟨none,.st 3 (.t 4) (.t 16),none⟩,⟨none,.st 1 (.t 5) (.c (.i .i64 0)),none⟩,⟨none,.st 1 (.t 6) (.c (.i .i64 1)),none⟩]]) .ret) .skip)) (.seq (.reg [.seq [⟨some 17,.mf (.func lcode_Get_1.n) [] [.t 4,.t 5,.t 6],none⟩,⟨none,.df (.t 17) [],none⟩]]) (.seq (.reg [.seq [⟨some 18,.mv (.t 0),none⟩,⟨some 19,.mv (.t 1),none⟩,⟨some 20,.bd [.s (bs []),.i .i64 0,.i .i64 0] [(0,1,.t 18),(1,1,.t 19)],none⟩,⟨some 21,.bx (.t 20),none⟩,⟨some 7,.mv (.t 21),none⟩]]) (.seq (.reg [.seq [⟨some 22,.mv (.t 7),none⟩,⟨some 23,.ca (.c (.fn (.func lcode_reader_level.n) [] [])) [.t 22,.c (.i .i64 0)],none⟩,⟨none,.st 3 (.t 4) (.t 23),none⟩]]) (.seq (.reg [.any [⟨some 24,.ld true 3 (.t 4),none⟩,⟨some 25,.mv (.t 7),none⟩,⟨some 26,.nc (.t 25),none⟩,⟨some 27,.fa 1 (.t 26),none⟩,⟨some 28,.ld false 1 (.t 27),none⟩,⟨none,.st 3 (.t 4) (.t 24),none⟩] [(4,5)],.seq [⟨none,.st 1 (.t 5) (.t 28),none⟩],.seq [⟨none,.st 1 (.t 6) (.c (.i .i64 0)),none⟩]]) .ret)))))), [.c 4 true 3,.c 5 false 1,.c 6 false 1]⟩
def law02_Maker_Level.c : PFun := ⟨(.seq (.reg [.seq [⟨some 8,.al [.i .i64 0,.i .i64 0,.ns],none⟩]]) (.seq (.reg [.seq [⟨some 10,.mv (.t 0),none⟩,⟨some 11,.ca (.c (.fn (.func law02_Maker_Pick.n) [] [])) [.t 10,.c (.i .i64 10)],none⟩,⟨some 9,.mv (.t 11),none⟩]]) (.seq (.seq (.reg [.seq [⟨some 12,.mv (.t 3),none⟩,⟨some 13,.bi .lss (.t 12) (.c (.i .i64 2)),none⟩]]) (.cond (.t 13) (.reg [.seq [⟨some 14,.mv (.t 9),none⟩,⟨some 15,.bi .rem (.t 14) (.c (.i .i64 4)),none⟩,⟨some 9,.mv (.t 15),none⟩]]) .skip)) (.seq (.block 0 (.seq (.reg [.seq [⟨some 17,.mv (.t 9),none⟩,⟨some 18,.bi .eql (.t 17) (.c (.i .i64 1)),none⟩,⟨some 19,.mv (.t 18),none⟩,⟨some 20,.mv (.t 1),some (19,true)⟩,⟨some 21,.bi .gtr (.t 20) (.c (.i .i64 0)),some (19,true)⟩,⟨some 22,.pk (.t 19) (.t 21) (.c (.b false)),none⟩,⟨some 23,.mv (.t 22),none⟩,⟨some 24,.mv (.t 9),some (23,false)⟩,⟨some 25,.bi .eql (.t 24) (.c (.i .i64 2)),some (23,false)⟩,⟨some 26,.mv (.t 25),some (23,false)⟩,⟨some 27,.mv (.t 1),some (26,true)⟩,⟨some 28,.bi .gtr (.t 27) (.c (.i .i64 0)),some (26,true)⟩,⟨some 29,.pk (.t 26) (.t 28) (.c (.b false)),some (23,false)⟩,⟨some 30,.mv (.t 29),some (23,false)⟩,⟨some 31,.mv (.t 2),some (30,true)⟩,⟨some 32,.bi .eql (.t 31) (.c (.i .i64 0)),some (30,true)⟩,⟨some 33,.pk (.t 30) (.t 32) (.c (.b false)),some (23,false)⟩,⟨some 34,.pk (.t 23) (.c (.b true)) (.t 33),none⟩,⟨some 16,.mv (.t 34),none⟩]]) (.cond (.t 16) (.seq (.reg [.seq [⟨some 35,.mv (.t 0),none⟩,⟨some 36,.mv (.t 1),none⟩,⟨some 37,.ca (.c (.fn (.func law02_Maker_Pick.n) [] [])) [.t 35,.t 36],none⟩,⟨some 38,.bd [.i .i64 0,.i .i64 0,.ns] [(0,1,.c (.i .i64 5)),(1,1,.t 37)],none⟩,⟨none,.st 3 (.t 8) (.t 38),none⟩]]) .ret) (.seq (.reg [.seq [⟨some 40,.mv (.t 9),none⟩,⟨some 41,.bi .eql (.t 40) (.c (.i .i64 2)),none⟩,⟨some 42,.mv (.t 41),none⟩,⟨some 43,.mv (.t 9),some (42,false)⟩,⟨some 44,.bi .eql (.t 43) (.c (.i .i64 3)),some (42,false)⟩,⟨some 45,.pk (.t 42) (.c (.b true)) (.t 44),none⟩,⟨some 46,.mv (.t 45),none⟩,⟨some 47,.mv (.t 2),some (46,true)⟩,⟨some 48,.bi .gtr (.t 47) (.c (.i .i64 0)),some (46,true)⟩,⟨some 49,.pk (.t 46) (.t 48) (.c (.b false)),none⟩,⟨some 39,.mv (.t 49),none⟩]]) (.cond (.t 39) (.seq (.reg [.seq [⟨some 50,.mv (.t 0),none⟩,⟨some 51,.mv (.t 2),none⟩,⟨some 52,.ca (.c (.fn (.func law02_Maker_Pick.n) [] [])) [.t 50,.t 51],none⟩,⟨some 53,.bd [.i .i64 0,.i .i64 0,.ns] [(0,1,.c (.i .i64 6)),(1,1,.t 52)],none⟩,⟨none,.st 3 (.t 8) (.t 53),none⟩]]) .ret) (.seq (.reg [.seq [⟨some 55,.mv (.t 9),none⟩,⟨some 56,.bi .lss (.t 55) (.c (.i .i64 4)),none⟩,⟨some 54,.mv (.t 56),none⟩]]) (.cond (.t 54) (.seq (.reg [.seq [⟨some 57,.bd [.i .i64 0,.i .i64 0,.ns] [(0,1,.c (.i .i64 1))],none⟩,⟨none,.st 3 (.t 8) (.t 57),none⟩]]) .ret) (.seq (.reg [.seq [⟨some 59,.mv (.t 9),none⟩,⟨some 60,.bi .lss (.t 59) (.c (.i .i64 6)),none⟩,⟨some 58,.mv (.t 60),none⟩]]) (.cond (.t 58) (.seq (.reg [.seq [⟨some 61,.mv (.t 0),none⟩,⟨some 62,.mv (.t 1),none⟩,⟨some 63,.mv (.t 2),none⟩,⟨some 64,.mv (.t 3),none⟩,⟨some 65,.bi .sub (.t 64) (.c (.i .i64 1)),none⟩,⟨some 66,.ca (.c (.fn (.func law02_Maker_Level.n) [] [])) [.t 61,.t 62,.t 63,.t 65],none⟩,⟨some 67,.bs 3 1 [.i .i64 0,.i .i64 0,.ns] [(0,3,.t 66)],none⟩,⟨some 68,.bd [.i .i64 0,.i .i64 0,.ns] [(0,1,.c (.i .i64 2)),(2,1,.t 67)],none⟩,⟨none,.st 3 (.t 8) (.t 68),none⟩]]) .ret) (.seq (.reg [.seq [⟨some 70,.mv (.t 9),none⟩,⟨some 71,.bi .lss (.t 70) (.c (.i .i64 8)),none⟩,⟨some 69,.mv (.t 71),none⟩]]) (.cond (.t 69) (.seq (.reg [.seq [⟨some 72,.mv (.t 0),none⟩,⟨some 73,.mv (.t 1),none⟩,⟨some 74,.mv (.t 2),none⟩,⟨some 75,.mv (.t 3),none⟩,⟨some 76,.bi .sub (.t 75) (.c (.i .i64 1)),none⟩,⟨some 77,.ca (.c (.fn (.func law02_Maker_Level.n) [] [])) [.t 72,.t 73,.t 74,.t 76],none⟩,⟨some 78,.mv (.t 0),none⟩,⟨some 79,.mv (.t 1),none⟩,⟨some 80,.mv (.t 2),none⟩,⟨some 81,.mv (.t 3),none⟩,⟨some 82,.bi .sub (.t 81) (.c (.i .i64 1)),none⟩,⟨some 83,.ca (.c (.fn (.func law02_Maker_Level.n) [] [])) [.t 78,.t 79,.t 80,.t 82],none⟩,⟨some 84,.bs 3 2 [.i .i64 0,.i .i64 0,.ns] [(0,3,.t 77),(3,3,.t 83)],none⟩,⟨some 85,.bd [.i .i64 0,.i .i64 0,.ns] [(0,1,.c (.i .i64 3)),(2,1,.t 84)],none⟩,⟨none,.st 3 (.t 8) (.t 85),none⟩]]) .ret) .skip))))))))))) (.seq (.reg [.seq [⟨some 86,.mv (.t 0),none⟩,⟨some 87,.mv (.t 1),none⟩,⟨some 88,.mv (.t 2),none⟩,⟨some 89,.mv (.t 3),none⟩,⟨some 90,.bi .sub (.t 89) (.c (.i .i64 1)),none⟩,⟨some 91,.ca (.c (.fn (.func law02_Maker_Level.n) [] [])) [.t 86,.t 87,.t 88,.t 90],none⟩,⟨some 92,.mv (.t 0),none⟩,⟨some 93,.mv (.t 1),none⟩,⟨some 94,.mv (.t 2),none⟩,⟨some 95,.mv (.t 3),none⟩,⟨some 96,.bi .sub (.t 95) (.c (.i .i64 1)),none⟩,⟨some 97,.ca (.c (.fn (.func law02_Maker_Level.n) [] [])) [.t 92,.t 93,.t 94,.t 96],none⟩,⟨some 98,.bs 3 2 [.i .i64 0,.i .i64 0,.ns] [(0,3,.t 91),(3,3,.t 97)],none⟩,⟨some 99,.bd [.i .i64 0,.i .i64 0,.ns] [(0,1,.c (.i .i64 4)),(2,1,.t 98)],none⟩,⟨none,.st 3 (.t 8) (.t 99),none⟩]]) .ret))))), [.c 8 true 3]⟩
def level_Right.c : PFun := ⟨(.seq (.reg [.seq [⟨some 3,.bx (.t 0),none⟩,⟨some 6,.mv (.c (.b false)),none⟩]]) (.seq (.seq (.reg [.seq [⟨some 7,.mv (.t 1),none⟩,⟨some 8,.bi .lss (.t 7) (.c (.i .i64 0)),none⟩,⟨some 9,.mv (.t 8),none⟩,⟨some 10,.mv (.t 1),some (9,false)⟩,⟨some 11,.bi .gtr (.t 10) (.c (.i .i64 5)),some (9,false)⟩,⟨some 12,.pk (.t 9) (.c (.b true)) (.t 11),none⟩,⟨some 13,.mv (.t 12),none⟩,⟨some 14,.mv (.t 2),some (13,false)⟩,⟨some 15,.bi .lss (.t 14) (.c (.i .i64 0)),some (13,false)⟩,⟨some 16,.pk (.t 13) (.c (.b true)) (.t 15),none⟩,⟨some 17,.mv (.t 16),none⟩,⟨some 18,.mv (.t 2),some (17,false)⟩,⟨some 19,.bi .gtr (.t 18) (.c (.i .i64 10)),some (17,false)⟩,⟨some 20,.pk (.t 17) (.c (.b true)) (.t 19),none⟩]]) (.cond (.t 20) (.seq (.reg [.seq [⟨some 6,.mv (.c (.b false)),none⟩]]) .ret) .skip)) (.seq (.reg [.seq [⟨some 21,.ld true 3 (.t 3),none⟩,⟨some 22,.ca (.c (.fn (.func level_nodes.n) [] [])) [.t 21,.c (.i .i64 101)],none⟩,⟨some 23,.bi .leq (.t 22) (.c (.i .i64 100)),none⟩,⟨some 24,.mv (.t 23),none⟩,⟨some 25,.ld true 3 (.t 3),some (24,true)⟩,⟨some 26,.mv (.t 1),some (24,true)⟩,⟨some 27,.mv (.t 2),some (24,true)⟩,⟨some 28,.ca (.c (.fn (.func level_right.n) [] [])) [.t 25,.t 26,.t 27,.c (.i .i64 12)],some (24,true)⟩,⟨some 29,.pk (.t 24) (.t 28) (.c (.b false)),none⟩,⟨some 6,.mv (.t 29),none⟩]]) .ret))), [.t 6]⟩
def ref03_Get.c : PFun := ⟨(.seq (.reg [.seq [⟨some 4,.al [.i .i64 0,.i .i64 0,.ns],none⟩,⟨some 5,.mv (.c (.i .i64 0)),none⟩,⟨some 6,.mv (.c (.i .i64 0)),none⟩]]) (.seq (.seq (.reg [.seq [⟨some 9,.mv (.t 1),none⟩,⟨some 10,.bi .lss (.t 9) (.c (.i .i64 0)),none⟩,⟨some 11,.mv (.t 10),none⟩,⟨some 12,.mv (.t 1),some (11,false)⟩,⟨some 13,.mv (.t 0),some (11,false)⟩,⟨some 14,.ln .s (.t 13),some (11,false)⟩,⟨some 15,.bi .gtr (.t 12) (.t 14),some (11,false)⟩,⟨some 16,.pk (.t 11) (.c (.b true)) (.t 15),none⟩]]) (.cond (.t 16) (.seq (.reg [.seq [⟨some 17,.bd [.i .i64 0,.i .i64 0,.ns] [],none⟩,⟨none,.st 3 (.t 4) (.t 17),none⟩,⟨some 5,.mv (.c (.i .i64 0)),none⟩,⟨some 6,.mv (.c (.i .i64 1)),none⟩]]) .ret) .skip)) (.seq (.reg [.seq [⟨some 18,.mv (.t 0),none⟩,⟨some 19,.mv (.t 1),none⟩,⟨some 20,.bd [.s (bs []),.i .i64 0,.i .i64 0,.i .i64 0] [(0,1,.t 18),(1,1,.t 19)],none⟩,⟨some 21,.bx (.t 20),none⟩,⟨some 7,.mv (.t 21),none⟩]]) (.seq (.reg [.seq [⟨some 22,.mv (.t 7),none⟩,⟨some 23,.ca (.c (.fn (.func ref03_reader_level.n) [] [])) [.t 22,.c (.i .i64 0)],none⟩,⟨some 8,.al [.i .i64 0,.i .i64 0,.ns],none⟩,⟨none,.st 3 (.t 8) (.t 23),none⟩]]) (.seq (.seq (.reg [.seq [⟨some 24,.mv (.t 7),none⟩,⟨some 25,.nc (.t 24),none⟩,⟨some 26,.fa 3 (.t 25),none⟩,⟨some 27,.ld false 1 (.t 26),none⟩,⟨some 28,.bi .neq (.t 27) (.c (.i .i64 0)),none⟩]]) (.cond (.t 28) (.seq (.reg [.any [⟨some 29,.bd [.i .i64 0,.i .i64 0,.ns] [],none⟩,⟨some 30,.mv (.t 7),none⟩,⟨some 31,.nc (.t 30),none⟩,⟨some 32,.fa 3 (.t 31),none⟩,⟨some 33,.ld false 1 (.t 32),none⟩,⟨none,.st 3 (.t 4) (.t 29),none⟩,⟨some 5,.mv (.c (.i .i64 0)),none⟩] [(4,5)],.seq [⟨some 6,.mv (.t 33),none⟩]]) .ret) .skip)) (.seq (.reg [.any [⟨some 34,.ld true 3 (.t 8),none⟩,⟨some 35,.mv (.t 7),none⟩,⟨some 36,.nc (.t 35),none⟩,⟨some 37,.fa 1 (.t 36),none⟩,⟨some 38,.ld false 1 (.t 37),none⟩,⟨none,.st 3 (.t 4) (.t 34),none⟩] [(4,5)],.seq [⟨some 5,.mv (.t 38),none⟩],.seq [⟨some 6,.mv (.c (.i .i64 0)),none⟩]]) .ret)))))), [.c 4 true 3,.t 5,.t 6]⟩
def lcode_write.b1 : PCode := (.seq (.reg [.seq [⟨some 24,.bi .lss (.t 23) (.t 22),none⟩]]) (.seq (.cond (.t 24) .skip (.exit 0)) (.seq (.block 1 (.seq (.reg [.seq [⟨some 25,.ia 3 (.t 21) (.t 23),none⟩,⟨some 26,.ld true 3 (.t 25),none⟩,⟨some 6,.al [.i .i64 0,.i .i64 0,.ns],none⟩,⟨none,.st 3 (.t 6) (.t 26),none⟩]]) (.reg [.seq [⟨some 27,.ld false 1 (.t 2),none⟩,⟨some 28,.ld true 3 (.t 6),none⟩,⟨some 29,.ca (.c (.fn (.func lcode_write.n) [] [])) [.t 27,.t 28],none⟩]]))) (.reg [.seq [⟨some 30,.bi .add (.t 23) (.c (.i .i64 1)),none⟩,⟨some 23,.mv (.t 30),none⟩]]))))
def lcode_write.c : PFun := ⟨(.seq (.reg [.seq [⟨some 2,.bx (.t 0),none⟩,⟨some 3,.bx (.t 1),none⟩]]) (.seq (.reg [.seq [⟨some 7,.mf (.func lcode_write_1.n) [] [.t 2],none⟩,⟨some 4,.mv (.t 7),none⟩]]) (.seq (.reg [.seq [⟨some 8,.mv (.t 4),none⟩,⟨some 9,.fa 0 (.t 3),none⟩,⟨some 10,.ld false 1 (.t 9),none⟩,⟨some 11,.ca (.t 8) [.t 10],none⟩]]) (.seq (.seq (.reg [.seq [⟨some 12,.fa 0 (.t 3),none⟩,⟨some 13,.ld false 1 (.t 12),none⟩,⟨some 14,.ca (.c (.fn (.func lcode_named.n) [] [])) [.t 13],none⟩,⟨some 15,.bi .gtr (.t 14) (.c (.i .i64 0)),none⟩]]) (.cond (.t 15) (.reg [.seq [⟨some 16,.mv (.t 4),none⟩,⟨some 17,.fa 1 (.t 3),none⟩,⟨some 18,.ld false 1 (.t 17),none⟩,⟨some 19,.ca (.t 16) [.t 18],none⟩]]) .skip)) (.seq (.reg [.seq [⟨some 20,.fa 2 (.t 3),none⟩,⟨some 21,.ld false 1 (.t 20),none⟩,⟨some 22,.ln .l (.t 21),none⟩,⟨some 23,.mv (.c (.i .i64 0)),none⟩]]) (.block 0 (.loop lcode_write.b1))))))), []⟩
def strings_Builder_String.c : PFun := ⟨(.seq (.reg [.seq [⟨some 2,.mv (.c (.s (bs []))),none⟩]]) (.seq (.reg [.any [⟨some 3,.mv (.t 0),none⟩,⟨some 4,.nc (.t 3),none⟩,⟨some 5,.fa 1 (.t 4),none⟩,⟨some 6,.ld false 1 (.t 5),none⟩,⟨some 7,.ub .sd (.t 6) (.c .un),none⟩,⟨some 8,.mv (.t 0),none⟩,⟨some 9,.nc (.t 8),none⟩,⟨some 10,.fa 1 (.t 9),none⟩,⟨some 11,.ld false 1 (.t 10),none⟩,⟨some 12,.ln .l (.t 11),none⟩] [(4,8),(4,9)],.seq [⟨some 13,.ub (.us 5) (.t 7) (.t 12),none⟩],.seq [⟨some 2,.mv (.t 13),none⟩]]) .ret)), [.t 2]⟩
def ref02_Right.c : PFun := ⟨(.seq (.reg [.seq [⟨some 3,.bx (.t 0),none⟩,⟨some 6,.mv (.c (.b false)),none⟩]]) (.seq (.reg [.seq [⟨some 7,.mv (.t 1),none⟩,⟨some 8,.bi .geq (.t 7) (.c (.i .i64 0)),none⟩,⟨some 9,.mv (.t 8),none⟩,⟨some 10,.mv (.t 1),some (9,true)⟩,⟨some 11,.bi .leq (.t 10) (.c (.i .i64 5)),some (9,true)⟩,⟨some 12,.pk (.t 9) (.t 11) (.c (.b false)),none⟩,⟨some 13,.mv (.t 12),none⟩,⟨some 14,.mv (.t 2),some (13,true)⟩,⟨some 15,.bi .geq (.t 14) (.c (.i .i64 0)),some (13,true)⟩,⟨some 16,.pk (.t 13) (.t 15) (.c (.b false)),none⟩,⟨some 17,.mv (.t 16),none⟩,⟨some 18,.mv (.t 2),some (17,true)⟩,⟨some 19,.bi .leq (.t 18) (.c (.i .i64 10)),some (17,true)⟩,⟨some 20,.pk (.t 17) (.t 19) (.c (.b false)),none⟩,⟨some 21,.mv (.t 20),none⟩,⟨some 22,.ld true 3 (.t 3),some (21,true)⟩,⟨some 23,.ca (.c (.fn (.func ref02_Nodes.n) [] [])) [.t 22,.c (.i .i64 101)],some (21,true)⟩,⟨some 24,.bi .leq (.t 23) (.c (.i .i64 100)),some (21,true)⟩,⟨some 25,.pk (.t 21) (.t 24) (.c (.b false)),none⟩,⟨some 26,.mv (.t 25),none⟩,⟨some 27,.ld true 3 (.t 3),some (26,true)⟩,⟨some 28,.mv (.t 1),some (26,true)⟩,⟨some 29,.mv (.t 2),some (26,true)⟩,⟨some 30,.ca (.c (.fn (.func ref02_right.n) [] [])) [.t 27,.t 28,.t 29,.c (.i .i64 12)],some (26,true)⟩,⟨some 31,.pk (.t 26) (.t 30) (.c (.b false)),none⟩,⟨some 6,.mv (.t 31),none⟩]]) .ret)), [.t 6]⟩
def ref03_text.b1 : PCode := (.seq (.seq (.reg [.seq [⟨some 31,.mv (.t 7),none⟩,⟨some 32,.fa 2 (.t 1),none⟩,⟨some 33,.ld false 1 (.t 32),none⟩,⟨some 34,.ln .l (.t 33),none⟩,⟨some 35,.bi .lss (.t 31) (.t 34),none⟩]]) (.cond (.t 35) .skip (.exit 0))) (.seq (.block 1 (.reg [.seq [⟨some 38,.mv (.t 3),none⟩,⟨some 39,.fa 2 (.t 1),none⟩,⟨some 40,.ld false 1 (.t 39),none⟩,⟨some 41,.mv (.t 7),none⟩,⟨some 42,.ia 3 (.t 40) (.t 41),none⟩,⟨some 43,.ld true 3 (.t 42),none⟩,⟨some 44,.ca (.c (.fn (.func ref03_text.n) [] [])) [.t 43],none⟩,⟨some 45,.bi .add (.t 38) (.t 44),none⟩,⟨some 3,.mv (.t 45),none⟩]])) (.reg [.seq [⟨some 36,.mv (.t 7),none⟩,⟨some 37,.bi .add (.t 36) (.c (.i .i64 1)),none⟩,⟨some 7,.mv (.t 37),none⟩]])))
def ref03_text.c : PFun := ⟨(.seq (.reg [.seq [⟨some 1,.bx (.t 0),none⟩,⟨some 2,.mv (.c (.s (bs []))),none⟩]]) (.seq (.reg [.seq [⟨some 9,.fa 0 (.t 1),none⟩,⟨some 10,.ld false 1 (.t 9),none⟩,⟨some 11,.ca (.c (.fn (.func ref01_Put.n) [] [])) [.t 10],none⟩,⟨some 8,.mv (.t 11),none⟩,⟨some 12,.ex (.t 8) 0,none⟩,⟨some 13,.ex (.t 8) 1,none⟩,⟨some 3,.mv (.t 12),none⟩,⟨some 4,.mv (.t 13),none⟩]]) (.seq (.seq (.reg [.seq [⟨some 14,.fa 0 (.t 1),none⟩,⟨some 15,.ld false 1 (.t 14),none⟩,⟨some 16,.bi .eql (.t 15) (.c (.i .i64 5)),none⟩,⟨some 17,.mv (.t 16),none⟩,⟨some 18,.fa 0 (.t 1),some (17,false)⟩,⟨some 19,.ld false 1 (.t 18),some (17,false)⟩,⟨some 20,.bi .eql (.t 19) (.c (.i .i64 6)),some (17,false)⟩,⟨some 21,.pk (.t 17) (.c (.b true)) (.t 20),none⟩]]) (.cond (.t 21) (.seq (.reg [.seq [⟨some 23,.fa 1 (.t 1),none⟩,⟨some 24,.ld false 1 (.t 23),none⟩,⟨some 25,.ca (.c (.fn (.func ref01_Put.n) [] [])) [.t 24],none⟩,⟨some 22,.mv (.t 25),none⟩,⟨some 26,.ex (.t 22) 0,none⟩,⟨some 27,.ex (.t 22) 1,none⟩,⟨some 5,.mv (.t 26),none⟩,⟨some 6,.mv (.t 27),none⟩]]) (.reg [.seq [⟨some 28,.mv (.t 3),none⟩,⟨some 29,.mv (.t 5),none⟩,⟨some 30,.bi .add (.t 28) (.t 29),none⟩,⟨some 3,.mv (.t 30),none⟩]])) .skip)) (.seq (.seq (.reg [.seq [⟨some 7,.mv (.c (.i .i64 0)),none⟩]]) (.block 0 (.loop ref03_text.b1))) (.seq (.reg [.seq [⟨some 46,.mv (.t 3),none⟩,⟨some 2,.mv (.t 46),none⟩]]) .ret))))), [.t 2]⟩
def lcode_Get_1.c : PFun := ⟨(.seq (.reg [.seq [⟨some 6,.rc,none⟩,⟨some 7,.ta 87 (.ag [.i .i64 0]) (.t 6) true,none⟩,⟨some 5,.mv (.t 7),none⟩,⟨some 8,.ex (.t 5) 0,none⟩,⟨some 9,.ex (.t 5) 1,none⟩,⟨some 3,.al [.i .i64 0],none⟩,⟨none,.st 1 (.t 3) (.t 8),none⟩,⟨some 4,.mv (.t 9),none⟩]]) (.seq (.reg [.seq [⟨some 10,.mv (.t 4),none⟩]]) (.cond (.t 10) (.reg [.any [⟨some 11,.bd [.i .i64 0,.i .i64 0,.ns] [],none⟩,⟨some 12,.fa 0 (.t 3),none⟩,⟨some 13,.ld false 1 (.t 12),none⟩,⟨none,.st 3 (.t 0) (.t 11),none⟩,⟨none,.st 1 (.t 1) (.c (.i .i64 0)),none⟩] [(2,3),(2,4)],.seq [⟨none,.st 1 (.t 2) (.t 13),none⟩]]) .skip))), []⟩
def lcode_reader_level.b1 : PCode := (.seq (.reg [.seq [⟨some 56,.bi .lss (.t 55) (.t 54),none⟩]]) (.seq (.cond (.t 56) .skip (.exit 6)) (.seq (.block 7 (.reg [.any [⟨some 57,.fa 2 (.t 5),none⟩,⟨some 58,.ld false 1 (.t 57),none⟩,⟨some 59,.mv (.t 0),none⟩,⟨some 60,.mv (.t 1),none⟩,⟨some 61,.bi .add (.t 60) (.c (.i .i64 1)),none⟩,⟨some 62,.ca (.c (.fn (.func lcode_reader_level.n) [] [])) [.t 59,.t 61],none⟩,⟨some 63,.bs 3 1 [.i .i64 0,.i .i64 0,.ns] [(0,3,.t 62)],none⟩] [(1,5),(1,6)],.seq [⟨some 64,.ap 3 (.t 58) (.t 63),none⟩],.seq [⟨some 65,.fa 2 (.t 5),none⟩],.seq [⟨none,.st 1 (.t 65) (.t 64),none⟩]])) (.reg [.seq [⟨some 66,.bi .add (.t 55) (.c (.i .i64 1)),none⟩,⟨some 55,.mv (.t 66),none⟩]]))))
def lcode_reader_level.c : PFun := ⟨(.seq (.reg [.seq [⟨some 4,.al [.i .i64 0,.i .i64 0,.ns],none⟩]]) (.seq (.reg [.seq [⟨some 7,.mv (.t 1),none⟩,⟨some 8,.bi .lss (.t 7) (.c (.i .i64 12)),none⟩,⟨some 9,.mv (.t 8),none⟩,⟨some 10,.mv (.t 0),some (9,true)⟩,⟨some 11,.nc (.t 10),some (9,true)⟩,⟨some 12,.fa 2 (.t 11),some (9,true)⟩,⟨some 13,.ld false 1 (.t 12),some (9,true)⟩,⟨some 14,.bi .lss (.t 13) (.c (.i .i64 100)),some (9,true)⟩,⟨some 15,.pk (.t 9) (.t 14) (.c (.b false)),none⟩,⟨some 16,.ca (.c (.fn (.func lcode_want.n) [] [])) [.t 15,.c (.i .i64 2)],none⟩]]) (.seq (.reg [.seq [⟨some 17,.mv (.t 0),none⟩,⟨some 18,.nc (.t 17),none⟩,⟨some 19,.fa 2 (.t 18),none⟩,⟨some 20,.ld false 1 (.t 19),none⟩,⟨some 21,.bi .add (.t 20) (.c (.i .i64 1)),none⟩,⟨some 22,.nc (.t 17),none⟩,⟨some 23,.fa 2 (.t 22),none⟩,⟨none,.st 1 (.t 23) (.t 21),none⟩]]) (.seq (.reg [.seq [⟨some 24,.mv (.t 0),none⟩,⟨some 25,.ca (.c (.fn (.func lcode_reader_number.n) [] [])) [.t 24],none⟩,⟨some 26,.bd [.i .i64 0,.i .i64 0,.ns] [(0,1,.t 25)],none⟩,⟨some 5,.al [.i .i64 0,.i .i64 0,.ns],none⟩,⟨none,.st 3 (.t 5) (.t 26),none⟩]]) (.seq (.reg [.seq [⟨some 6,.mv (.c (.i .i64 0)),none⟩]]) (.seq (.seq (.reg [.seq [⟨some 27,.fa 0 (.t 5),none⟩,⟨some 28,.ld false 1 (.t 27),none⟩]]) (.block 0 (.seq (.block 5 (.seq (.block 4 (.seq (.block 3 (.seq (.block 2 (.seq (.block 1 (.seq (.seq (.seq (.reg [.seq [⟨some 30,.bi .eql (.t 28) (.c (.i .i64 1)),none⟩,⟨some 29,.mv (.t 30),none⟩]]) (.cond (.t 29) (.exit 1) .skip)) (.seq (.seq (.seq (.reg [.seq [⟨some 32,.bi .eql (.t 28) (.c (.i .i64 5)),none⟩,⟨some 31,.mv (.t 32),none⟩]]) (.cond (.t 31) .skip (.reg [.seq [⟨some 33,.bi .eql (.t 28) (.c (.i .i64 6)),none⟩,⟨some 31,.mv (.t 33),none⟩]]))) (.cond (.t 31) (.exit 2) .skip)) (.seq (.seq (.seq (.reg [.seq [⟨some 35,.bi .eql (.t 28) (.c (.i .i64 3)),none⟩,⟨some 34,.mv (.t 35),none⟩]]) (.cond (.t 34) .skip (.reg [.seq [⟨some 36,.bi .eql (.t 28) (.c (.i .i64 4)),none⟩,⟨some 34,.mv (.t 36),none⟩]]))) (.cond (.t 34) (.exit 3) .skip)) (.seq (.reg [.seq [⟨some 38,.bi .eql (.t 28) (.c (.i .i64 2)),none⟩,⟨some 37,.mv (.t 38),none⟩]]) (.cond (.t 37) (.exit 4) .skip))))) (.exit 5))) (.exit 0))) (.seq (.seq (.reg [.seq [⟨some 39,.mv (.t 0),none⟩,⟨some 40,.ca (.c (.fn (.func lcode_reader_number.n) [] [])) [.t 39],none⟩,⟨some 41,.fa 1 (.t 5),none⟩,⟨none,.st 1 (.t 41) (.t 40),none⟩]]) (.reg [.any [⟨some 42,.fa 1 (.t 5),none⟩,⟨some 43,.ld false 1 (.t 42),none⟩,⟨some 44,.fa 0 (.t 5),none⟩,⟨some 45,.ld false 1 (.t 44),none⟩,⟨some 46,.ca (.c (.fn (.func lcode_named.n) [] [])) [.t 45],none⟩] [(1,4)],.seq [⟨some 47,.bi .lss (.t 43) (.t 46),none⟩],.seq [⟨some 48,.ca (.c (.fn (.func lcode_want.n) [] [])) [.t 47,.c (.i .i64 20)],none⟩]])) (.exit 0)))) (.reg [.seq [⟨some 49,.mv (.t 6),none⟩,⟨some 50,.bi .add (.t 49) (.c (.i .i64 1)),none⟩,⟨some 6,.mv (.t 50),none⟩]]))) (.seq (.reg [.seq [⟨some 51,.mv (.t 6),none⟩,⟨some 52,.bi .add (.t 51) (.c (.i .i64 1)),none⟩,⟨some 6,.mv (.t 52),none⟩]]) (.exit 0)))) (.seq (.reg [.seq [⟨some 53,.ca (.c (.fn (.func lcode_want.n) [] [])) [.c (.b false),.c (.i .i64 20)],none⟩]]) (.exit 0))))) (.seq (.seq (.reg [.seq [⟨some 54,.mv (.t 6),none⟩,⟨some 55,.mv (.c (.i .i64 0)),none⟩]]) (.block 6 (.loop lcode_reader_level.b1))) (.seq (.reg [.seq [⟨some 67,.ld true 3 (.t 5),none⟩,⟨none,.st 3 (.t 4) (.t 67),none⟩]]) .ret)))))))), [.c 4 true 3]⟩
def law02_Maker_Pick.c : PFun := ⟨(.seq (.reg [.seq [⟨some 4,.mv (.c (.i .i64 0)),none⟩]]) (.seq (.reg [.seq [⟨some 5,.mv (.t 0),none⟩,⟨some 6,.nc (.t 5),none⟩,⟨some 7,.fa 1 (.t 6),none⟩,⟨some 8,.ld false 1 (.t 7),none⟩,⟨some 9,.bi .add (.t 8) (.c (.i .i64 1)),none⟩,⟨some 10,.nc (.t 5),none⟩,⟨some 11,.fa 1 (.t 10),none⟩,⟨none,.st 1 (.t 11) (.t 9),none⟩]]) (.seq (.seq (.reg [.any [⟨some 12,.mv (.t 0),none⟩,⟨some 13,.nc (.t 12),none⟩,⟨some 14,.fa 1 (.t 13),none⟩,⟨some 15,.ld false 1 (.t 14),none⟩,⟨some 16,.mv (.t 0),none⟩,⟨some 17,.nc (.t 16),none⟩,⟨some 18,.fa 0 (.t 17),none⟩,⟨some 19,.ld false 1 (.t 18),none⟩,⟨some 20,.ln .l (.t 19),none⟩] [],.seq [⟨some 21,.bi .gtr (.t 15) (.t 20),none⟩]]) (.cond (.t 21) (.seq (.reg [.seq [⟨some 4,.mv (.c (.i .i64 0)),none⟩]]) .ret) .skip)) (.seq (.reg [.any [⟨some 22,.mv (.t 0),none⟩,⟨some 23,.nc (.t 22),none⟩,⟨some 24,.fa 0 (.t 23),none⟩,⟨some 25,.ld false 1 (.t 24),none⟩,⟨some 26,.mv (.t 0),none⟩,⟨some 27,.nc (.t 26),none⟩,⟨some 28,.fa 1 (.t 27),none⟩,⟨some 29,.ld false 1 (.t 28),none⟩,⟨some 30,.bi .sub (.t 29) (.c (.i .i64 1)),none⟩,⟨some 31,.ia 1 (.t 25) (.t 30),none⟩,⟨some 32,.ld false 1 (.t 31),none⟩,⟨some 33,.ci .i64 (.t 32),none⟩,⟨some 34,.mv (.t 1),none⟩] [],.seq [⟨some 35,.bi .rem (.t 33) (.t 34),none⟩],.seq [⟨some 4,.mv (.t 35),none⟩]]) .ret)))), [.t 4]⟩
def level_nodes.b1 : PCode := (.seq (.reg [.seq [⟨some 12,.bi .lss (.t 11) (.t 10),none⟩]]) (.seq (.cond (.t 12) .skip (.exit 0)) (.seq (.block 1 (.seq (.reg [.seq [⟨some 13,.ia 3 (.t 9) (.t 11),none⟩,⟨some 14,.ld true 3 (.t 13),none⟩,⟨some 7,.al [.i .i64 0,.i .i64 0,.ns],none⟩,⟨none,.st 3 (.t 7) (.t 14),none⟩]]) (.seq (.reg [.seq [⟨some 15,.mv (.t 5),none⟩,⟨some 16,.mv (.t 1),none⟩,⟨some 17,.bi .lss (.t 15) (.t 16),none⟩]]) (.cond (.t 17) (.reg [.seq [⟨some 18,.mv (.t 5),none⟩,⟨some 19,.ld true 3 (.t 7),none⟩,⟨some 20,.mv (.t 1),none⟩,⟨some 21,.mv (.t 5),none⟩,⟨some 22,.bi .sub (.t 20) (.t 21),none⟩,⟨some 23,.ca (.c (.fn (.func level_nodes.n) [] [])) [.t 19,.t 22],none⟩,⟨some 24,.bi .add (.t 18) (.t 23),none⟩,⟨some 5,.mv (.t 24),none⟩]]) .skip)))) (.reg [.seq [⟨some 25,.bi .add (.t 11) (.c (.i .i64 1)),none⟩,⟨some 11,.mv (.t 25),none⟩]]))))
def level_nodes.c : PFun := ⟨(.seq (.reg [.seq [⟨some 2,.bx (.t 0),none⟩,⟨some 4,.mv (.c (.i .i64 0)),none⟩]]) (.seq (.reg [.seq [⟨some 5,.mv (.c (.i .i64 1)),none⟩]]) (.seq (.seq (.reg [.seq [⟨some 8,.fa 2 (.t 2),none⟩,⟨some 9,.ld false 1 (.t 8),none⟩,⟨some 10,.ln .l (.t 9),none⟩,⟨some 11,.mv (.c (.i .i64 0)),none⟩]]) (.block 0 (.loop level_nodes.b1))) (.seq (.reg [.seq [⟨some 26,.mv (.t 5),none⟩,⟨some 4,.mv (.t 26),none⟩]]) .ret)))), [.t 4]⟩
def level_right.c : PFun := ⟨(.seq (.reg [.seq [⟨some 4,.bx (.t 0),none⟩,⟨some 5,.bx (.t 1),none⟩,⟨some 6,.bx (.t 2),none⟩,⟨some 7,.bx (.t 3),none⟩,⟨some 8,.mv (.c (.b false)),none⟩]]) (.seq (.reg [.any [⟨some 13,.ca (.c (.fn (.func level_kinds.n) [] [])) [],none⟩,⟨some 14,.fa 0 (.t 4),none⟩,⟨some 15,.ld false 1 (.t 14),none⟩,⟨some 16,.lk (.one .i) (.ag [.i .i64 0,.nf]) (.t 13) (.t 15) true,none⟩,⟨some 12,.mv (.t 16),none⟩,⟨some 17,.ex (.t 12) 0,none⟩,⟨some 18,.ex (.t 12) 1,none⟩,⟨some 9,.al [.i .i64 0,.nf],none⟩,⟨none,.st 2 (.t 9) (.t 17),none⟩] [(0,2),(0,7),(2,7),(3,7)],.seq [⟨some 10,.mv (.t 18),none⟩]]) (.seq (.reg [.seq [⟨some 19,.mf (.func level_right_1.n) [] [.t 5,.t 6,.t 7],none⟩,⟨some 11,.mv (.t 19),none⟩]]) (.seq (.reg [.seq [⟨some 20,.ld false 1 (.t 7),none⟩,⟨some 21,.bi .gtr (.t 20) (.c (.i .i64 0)),none⟩,⟨some 22,.mv (.t 21),none⟩,⟨some 23,.mv (.t 10),some (22,true)⟩,⟨some 24,.pk (.t 22) (.t 23) (.c (.b false)),none⟩,⟨some 25,.mv (.t 24),none⟩,⟨some 26,.fa 2 (.t 4),some (25,true)⟩,⟨some 27,.ld false 1 (.t 26),some (25,true)⟩,⟨some 28,.ln .l (.t 27),some (25,true)⟩,⟨some 29,.fa 0 (.t 9),some (25,true)⟩,⟨some 30,.ld false 1 (.t 29),some (25,true)⟩,⟨some 31,.bi .eql (.t 28) (.t 30),some (25,true)⟩,⟨some 32,.pk (.t 25) (.t 31) (.c (.b false)),none⟩,⟨some 33,.mv (.t 32),none⟩,⟨some 34,.ld true 3 (.t 4),some (33,true)⟩,⟨some 35,.ld false 1 (.t 5),some (33,true)⟩,⟨some 36,.ld false 1 (.t 6),some (33,true)⟩,⟨some 37,.ca (.c (.fn (.func level_named.n) [] [])) [.t 34,.t 35,.t 36],some (33,true)⟩,⟨some 38,.pk (.t 33) (.t 37) (.c (.b false)),none⟩,⟨some 39,.mv (.t 38),none⟩,⟨some 40,.fa 2 (.t 4),some (39,true)⟩,⟨some 41,.ld false 1 (.t 40),some (39,true)⟩,⟨some 42,.mv (.t 11),some (39,true)⟩,⟨some 43,.ca (.c (.fn (.func slices_ContainsFunc_Level.n) [] [])) [.t 41,.t 42],some (39,true)⟩,⟨some 44,.un .not (.t 43),some (39,true)⟩,⟨some 45,.pk (.t 39) (.t 44) (.c (.b false)),none⟩,⟨some 8,.mv (.t 45),none⟩]]) .ret)))), [.t 8]⟩
def ref03_reader_level.b1 : PCode := (.seq (.seq (.reg [.seq [⟨some 79,.mv (.t 8),none⟩,⟨some 80,.mv (.t 6),none⟩,⟨some 81,.bi .lss (.t 79) (.t 80),none⟩,⟨some 82,.mv (.t 81),none⟩,⟨some 83,.mv (.t 0),some (82,true)⟩,⟨some 84,.nc (.t 83),some (82,true)⟩,⟨some 85,.fa 3 (.t 84),some (82,true)⟩,⟨some 86,.ld false 1 (.t 85),some (82,true)⟩,⟨some 87,.bi .eql (.t 86) (.c (.i .i64 0)),some (82,true)⟩,⟨some 88,.pk (.t 82) (.t 87) (.c (.b false)),none⟩]]) (.cond (.t 88) .skip (.exit 1))) (.seq (.block 2 (.reg [.any [⟨some 91,.fa 2 (.t 5),none⟩,⟨some 92,.ld false 1 (.t 91),none⟩,⟨some 93,.mv (.t 0),none⟩,⟨some 94,.mv (.t 1),none⟩,⟨some 95,.bi .add (.t 94) (.c (.i .i64 1)),none⟩,⟨some 96,.ca (.c (.fn (.func ref03_reader_level.n) [] [])) [.t 93,.t 95],none⟩,⟨some 97,.bs 3 1 [.i .i64 0,.i .i64 0,.ns] [(0,3,.t 96)],none⟩] [(1,5),(1,6)],.seq [⟨some 98,.ap 3 (.t 92) (.t 97),none⟩],.seq [⟨some 99,.fa 2 (.t 5),none⟩],.seq [⟨none,.st 1 (.t 99) (.t 98),none⟩]])) (.reg [.seq [⟨some 89,.mv (.t 8),none⟩,⟨some 90,.bi .add (.t 89) (.c (.i .i64 1)),none⟩,⟨some 8,.mv (.t 90),none⟩]])))
def ref03_reader_level.c : PFun := ⟨(.seq (.reg [.seq [⟨some 4,.al [.i .i64 0,.i .i64 0,.ns],none⟩]]) (.seq (.seq (.reg [.seq [⟨some 9,.mv (.t 1),none⟩,⟨some 10,.bi .geq (.t 9) (.c (.i .i64 12)),none⟩,⟨some 11,.mv (.t 10),none⟩,⟨some 12,.mv (.t 0),some (11,false)⟩,⟨some 13,.nc (.t 12),some (11,false)⟩,⟨some 14,.fa 2 (.t 13),some (11,false)⟩,⟨some 15,.ld false 1 (.t 14),some (11,false)⟩,⟨some 16,.bi .geq (.t 15) (.c (.i .i64 100)),some (11,false)⟩,⟨some 17,.pk (.t 11) (.c (.b true)) (.t 16),none⟩]]) (.cond (.t 17) (.seq (.reg [.seq [⟨some 18,.mv (.t 0),none⟩,⟨some 19,.nc (.t 18),none⟩,⟨some 20,.fa 3 (.t 19),none⟩,⟨none,.st 1 (.t 20) (.c (.i .i64 2)),none⟩]]) (.seq (.reg [.seq [⟨some 21,.bd [.i .i64 0,.i .i64 0,.ns] [],none⟩,⟨none,.st 3 (.t 4) (.t 21),none⟩]]) .ret)) .skip)) (.seq (.reg [.seq [⟨some 22,.mv (.t 0),none⟩,⟨some 23,.nc (.t 22),none⟩,⟨some 24,.fa 2 (.t 23),none⟩,⟨some 25,.ld false 1 (.t 24),none⟩,⟨some 26,.bi .add (.t 25) (.c (.i .i64 1)),none⟩,⟨some 27,.nc (.t 22),none⟩,⟨some 28,.fa 2 (.t 27),none⟩,⟨none,.st 1 (.t 28) (.t 26),none⟩]]) (.seq (.reg [.seq [⟨some 29,.mv (.t 0),none⟩,⟨some 30,.ca (.c (.fn (.func ref03_reader_number.n) [] [])) [.t 29],none⟩,⟨some 31,.bd [.i .i64 0,.i .i64 0,.ns] [(0,1,.t 30)],none⟩,⟨some 5,.al [.i .i64 0,.i .i64 0,.ns],none⟩,⟨none,.st 3 (.t 5) (.t 31),none⟩]]) (.seq (.reg [.seq [⟨some 6,.mv (.c (.i .i64 0)),none⟩]]) (.seq (.reg [.seq [⟨some 7,.mv (.c (.i .i64 0)),none⟩]]) (.seq (.seq (.reg [.seq [⟨some 32,.fa 0 (.t 5),none⟩,⟨some 33,.ld false 1 (.t 32),none⟩]]) (.block 0 (.seq (.reg [.seq [⟨some 43,.bi .eql (.t 33) (.c (.i .i64 1)),none⟩,⟨some 42,.mv (.t 43),none⟩]]) (.cond (.t 42) .skip (.seq (.reg [.seq [⟨some 45,.bi .eql (.t 33) (.c (.i .i64 2)),none⟩,⟨some 44,.mv (.t 45),none⟩]]) (.cond (.t 44) (.reg [.seq [⟨some 6,.mv (.c (.i .i64 1)),none⟩]]) (.seq (.seq (.reg [.seq [⟨some 47,.bi .eql (.t 33) (.c (.i .i64 3)),none⟩,⟨some 46,.mv (.t 47),none⟩]]) (.cond (.t 46) .skip (.reg [.seq [⟨some 48,.bi .eql (.t 33) (.c (.i .i64 4)),none⟩,⟨some 46,.mv (.t 48),none⟩]]))) (.cond (.t 46) (.reg [.seq [⟨some 6,.mv (.c (.i .i64 2)),none⟩]]) (.seq (.reg [.seq [⟨some 50,.bi .eql (.t 33) (.c (.i .i64 5)),none⟩,⟨some 49,.mv (.t 50),none⟩]]) (.cond (.t 49) (.reg [.seq [⟨some 7,.mv (.c (.i .i64 5)),none⟩]]) (.seq (.reg [.seq [⟨some 52,.bi .eql (.t 33) (.c (.i .i64 6)),none⟩,⟨some 51,.mv (.t 52),none⟩]]) (.cond (.t 51) (.reg [.seq [⟨some 7,.mv (.c (.i .i64 10)),none⟩]]) (.seq (.reg [.seq [⟨some 34,.mv (.t 0),none⟩,⟨some 35,.nc (.t 34),none⟩,⟨some 36,.fa 3 (.t 35),none⟩,⟨some 37,.ld false 1 (.t 36),none⟩,⟨some 38,.bi .eql (.t 37) (.c (.i .i64 0)),none⟩]]) (.cond (.t 38) (.reg [.seq [⟨some 39,.mv (.t 0),none⟩,⟨some 40,.nc (.t 39),none⟩,⟨some 41,.fa 3 (.t 40),none⟩,⟨none,.st 1 (.t 41) (.c (.i .i64 20)),none⟩]]) .skip)))))))))))))) (.seq (.seq (.reg [.seq [⟨some 53,.mv (.t 0),none⟩,⟨some 54,.nc (.t 53),none⟩,⟨some 55,.fa 3 (.t 54),none⟩,⟨some 56,.ld false 1 (.t 55),none⟩,⟨some 57,.bi .eql (.t 56) (.c (.i .i64 0)),none⟩,⟨some 58,.mv (.t 57),none⟩,⟨some 59,.mv (.t 7),some (58,true)⟩,⟨some 60,.bi .gtr (.t 59) (.c (.i .i64 0)),some (58,true)⟩,⟨some 61,.pk (.t 58) (.t 60) (.c (.b false)),none⟩]]) (.cond (.t 61) (.seq (.reg [.seq [⟨some 62,.mv (.t 0),none⟩,⟨some 63,.ca (.c (.fn (.func ref03_reader_number.n) [] [])) [.t 62],none⟩,⟨some 64,.fa 1 (.t 5),none⟩,⟨none,.st 1 (.t 64) (.t 63),none⟩]]) (.seq (.reg [.seq [⟨some 65,.mv (.t 0),none⟩,⟨some 66,.nc (.t 65),none⟩,⟨some 67,.fa 3 (.t 66),none⟩,⟨some 68,.ld false 1 (.t 67),none⟩,⟨some 69,.bi .eql (.t 68) (.c (.i .i64 0)),none⟩,⟨some 70,.mv (.t 69),none⟩,⟨some 71,.fa 1 (.t 5),some (70,true)⟩,⟨some 72,.ld false 1 (.t 71),some (70,true)⟩,⟨some 73,.mv (.t 7),some (70,true)⟩,⟨some 74,.bi .geq (.t 72) (.t 73),some (70,true)⟩,⟨some 75,.pk (.t 70) (.t 74) (.c (.b false)),none⟩]]) (.cond (.t 75) (.reg [.seq [⟨some 76,.mv (.t 0),none⟩,⟨some 77,.nc (.t 76),none⟩,⟨some 78,.fa 3 (.t 77),none⟩,⟨none,.st 1 (.t 78) (.c (.i .i64 20)),none⟩]]) .skip))) .skip)) (.seq (.seq (.reg [.seq [⟨some 8,.mv (.c (.i .i64 0)),none⟩]]) (.block 1 (.loop ref03_reader_level.b1))) (.seq (.reg [.seq [⟨some 100,.ld true 3 (.t 5),none⟩,⟨none,.st 3 (.t 4) (.t 100),none⟩]]) .ret)))))))))), [.c 4 true 3]⟩
def lcode_write_1.c : PFun := ⟨(.seq (.reg [.seq [⟨some 6,.mv (.t 0),none⟩,⟨some 7,.ca (.c (.fn (.func octet_Put.n) [] [])) [.t 6],none⟩,⟨some 5,.mv (.t 7),none⟩,⟨some 8,.ex (.t 5) 0,none⟩,⟨some 9,.ex (.t 5) 1,none⟩,⟨some 3,.mv (.t 8),none⟩,⟨some 4,.mv (.t 9),none⟩]]) (.reg [.seq [⟨some 10,.ld false 1 (.t 1),none⟩,⟨some 11,.mv (.t 3),none⟩,⟨some 12,.ca (.c (.fn (.func strings_Builder_WriteString.n) [] [])) [.t 10,.t 11],none⟩]])), []⟩
def octet_Put.a1 : PCode := (.seq (.reg [.seq [⟨some 5,.mv (.t 16),none⟩]]) (.reg [.seq [⟨some 6,.mv (.t 17),none⟩]]))
def octet_Put.b2 : PCode := (.block 1 (.seq (.seq (.reg [.seq [⟨some 18,.mv (.t 6),none⟩]]) (.cond (.t 18) (.reg [.seq [⟨some 19,.mv (.t 5),none⟩,⟨some 20,.bi .or (.t 19) (.c (.i .u8 128)),none⟩,⟨some 5,.mv (.t 20),none⟩]]) .skip)) (.reg [.seq [⟨some 21,.ld false 1 (.t 4),none⟩,⟨some 22,.mv (.t 5),none⟩,⟨some 23,.bs 1 1 [.i .u8 0] [(0,1,.t 22)],none⟩,⟨some 24,.ap 1 (.t 21) (.t 23),none⟩,⟨none,.st 1 (.t 4) (.t 24),none⟩]])))
def octet_Put.c : PFun := ⟨(.seq (.reg [.seq [⟨some 2,.mv (.c (.s (bs []))),none⟩,⟨some 3,.mv (.c (.i .i64 0)),none⟩]]) (.seq (.seq (.reg [.seq [⟨some 7,.mv (.t 0),none⟩,⟨some 8,.bi .lss (.t 7) (.c (.i .i64 0)),none⟩,⟨some 9,.mv (.t 8),none⟩,⟨some 10,.mv (.t 0),some (9,false)⟩,⟨some 11,.bi .gtr (.t 10) (.c (.i .i64 1099511627776)),some (9,false)⟩,⟨some 12,.pk (.t 9) (.c (.b true)) (.t 11),none⟩]]) (.cond (.t 12) (.seq (.reg [.seq [⟨some 2,.mv (.c (.s (bs []))),none⟩,⟨some 3,.mv (.c (.i .i64 1)),none⟩]]) .ret) .skip)) (.seq (.reg [.seq [⟨some 4,.al [.ns],none⟩]]) (.seq (.seq (.reg [.seq [⟨some 13,.mv (.t 0),none⟩,⟨some 14,.ci .u64 (.t 13),none⟩,⟨some 15,.ca (.c (.fn (.func octet_digits.n) [] [])) [.t 14],none⟩]]) (.block 0 (.rf (.t 15) [16,17] octet_Put.a1 octet_Put.b2))) (.seq (.reg [.seq [⟨some 25,.ld false 1 (.t 4),none⟩,⟨some 26,.cbs (.t 25),none⟩,⟨some 2,.mv (.t 26),none⟩,⟨some 3,.mv (.c (.i .i64 0)),none⟩]]) .ret))))), [.t 2,.t 3]⟩
def strings_Builder_WriteString.c : PFun := ⟨(.seq (.reg [.seq [⟨some 4,.mv (.c (.i .i64 0)),none⟩,⟨some 5,.mv (.c .ni),none⟩]]) (.seq (.reg [.seq [⟨some 6,.mv (.t 0),none⟩,⟨some 7,.ca (.c (.fn (.func strings_Builder_copyCheck.n) [] [])) [.t 6],none⟩]]) (.seq (.reg [.seq [⟨some 8,.mv (.t 0),none⟩,⟨some 9,.mv (.t 0),none⟩,⟨some 10,.nc (.t 9),none⟩,⟨some 11,.fa 1 (.t 10),none⟩,⟨some 12,.ld false 1 (.t 11),none⟩,⟨some 13,.mv (.t 1),none⟩,⟨some 14,.ub (.apt 5) (.t 12) (.t 13),none⟩,⟨some 15,.nc (.t 8),none⟩,⟨some 16,.fa 1 (.t 15),none⟩,⟨none,.st 1 (.t 16) (.t 14),none⟩]]) (.seq (.reg [.seq [⟨some 17,.mv (.t 1),none⟩,⟨some 18,.ln .s (.t 17),none⟩,⟨some 4,.mv (.t 18),none⟩,⟨some 5,.mv (.c .ni),none⟩]]) .ret)))), [.t 4,.t 5]⟩
def lcode_named.c : PFun := ⟨(.seq (.reg [.seq [⟨some 2,.mv (.c (.i .i64 0)),none⟩]]) (.seq (.seq (.reg [.seq [⟨some 3,.mv (.t 0),none⟩]]) (.block 0 (.seq (.reg [.seq [⟨some 5,.bi .eql (.t 3) (.c (.i .i64 5)),none⟩,⟨some 4,.mv (.t 5),none⟩]]) (.cond (.t 4) (.seq (.reg [.seq [⟨some 2,.mv (.c (.i .i64 5)),none⟩]]) .ret) (.seq (.reg [.seq [⟨some 7,.bi .eql (.t 3) (.c (.i .i64 6)),none⟩,⟨some 6,.mv (.t 7),none⟩]]) (.cond (.t 6) (.seq (.reg [.seq [⟨some 2,.mv (.c (.i .i64 10)),none⟩]]) .ret) .skip)))))) (.seq (.reg [.seq [⟨some 2,.mv (.c (.i .i64 0)),none⟩]]) .ret))), [.t 2]⟩
def ref02_right.b1 : PCode := (.seq (.seq (.reg [.seq [⟨some 45,.mv (.t 9),none⟩,⟨some 46,.fa 2 (.t 4),none⟩,⟨some 47,.ld false 1 (.t 46),none⟩,⟨some 48,.ln .l (.t 47),none⟩,⟨some 49,.bi .lss (.t 45) (.t 48),none⟩]]) (.cond (.t 49) .skip (.exit 1))) (.seq (.block 2 (.seq (.reg [.seq [⟨some 52,.fa 2 (.t 4),none⟩,⟨some 53,.ld false 1 (.t 52),none⟩,⟨some 54,.mv (.t 9),none⟩,⟨some 55,.ia 3 (.t 53) (.t 54),none⟩,⟨some 56,.ld true 3 (.t 55),none⟩,⟨some 57,.mv (.t 1),none⟩,⟨some 58,.mv (.t 2),none⟩,⟨some 59,.mv (.t 3),none⟩,⟨some 60,.bi .sub (.t 59) (.c (.i .i64 1)),none⟩,⟨some 61,.ca (.c (.fn (.func ref02_right.n) [] [])) [.t 56,.t 57,.t 58,.t 60],none⟩,⟨some 62,.un .not (.t 61),none⟩]]) (.cond (.t 62) (.seq (.reg [.seq [⟨some 8,.mv (.c (.b false)),none⟩]]) .ret) .skip))) (.reg [.seq [⟨some 50,.mv (.t 9),none⟩,⟨some 51,.bi .add (.t 50) (.c (.i .i64 1)),none⟩,⟨some 9,.mv (.t 51),none⟩]])))
def ref02_right.c : PFun := ⟨(.seq (.reg [.seq [⟨some 4,.bx (.t 0),none⟩,⟨some 8,.mv (.c (.b false)),none⟩]]) (.seq (.seq (.reg [.seq [⟨some 10,.mv (.t 3),none⟩],.seq [⟨some 11,.bi .lss (.t 10) (.c (.i .i64 1)),none⟩],.seq [⟨some 12,.mv (.t 11),none⟩],.any [⟨some 13,.fa 2 (.t 4),some (12,false)⟩,⟨some 14,.ld false 1 (.t 13),some (12,false)⟩,⟨some 15,.ln .l (.t 14),some (12,false)⟩,⟨some 16,.fa 0 (.t 4),some (12,false)⟩,⟨some 17,.ld false 1 (.t 16),some (12,false)⟩,⟨some 18,.ca (.c (.fn (.func ref02_kids.n) [] [])) [.t 17],some (12,false)⟩] [(1,5),(2,5)],.seq [⟨some 19,.bi .neq (.t 15) (.t 18),some (12,false)⟩],.seq [⟨some 20,.pk (.t 12) (.c (.b true)) (.t 19),none⟩]]) (.cond (.t 20) (.seq (.reg [.seq [⟨some 8,.mv (.c (.b false)),none⟩]]) .ret) .skip)) (.seq (.seq (.reg [.seq [⟨some 21,.fa 0 (.t 4),none⟩,⟨some 22,.ld false 1 (.t 21),none⟩]]) (.block 0 (.seq (.reg [.seq [⟨some 24,.bi .eql (.t 22) (.c (.i .i64 5)),none⟩,⟨some 23,.mv (.t 24),none⟩]]) (.cond (.t 23) (.seq (.reg [.seq [⟨some 25,.fa 1 (.t 4),none⟩,⟨some 26,.ld false 1 (.t 25),none⟩,⟨some 27,.bi .geq (.t 26) (.c (.i .i64 0)),none⟩,⟨some 28,.mv (.t 27),none⟩,⟨some 29,.fa 1 (.t 4),some (28,true)⟩,⟨some 30,.ld false 1 (.t 29),some (28,true)⟩,⟨some 31,.mv (.t 1),some (28,true)⟩,⟨some 32,.bi .lss (.t 30) (.t 31),some (28,true)⟩,⟨some 33,.pk (.t 28) (.t 32) (.c (.b false)),none⟩,⟨some 8,.mv (.t 33),none⟩]]) .ret) (.seq (.reg [.seq [⟨some 35,.bi .eql (.t 22) (.c (.i .i64 6)),none⟩,⟨some 34,.mv (.t 35),none⟩]]) (.cond (.t 34) (.seq (.reg [.seq [⟨some 36,.fa 1 (.t 4),none⟩,⟨some 37,.ld false 1 (.t 36),none⟩,⟨some 38,.bi .geq (.t 37) (.c (.i .i64 0)),none⟩,⟨some 39,.mv (.t 38),none⟩,⟨some 40,.fa 1 (.t 4),some (39,true)⟩,⟨some 41,.ld false 1 (.t 40),some (39,true)⟩,⟨some 42,.mv (.t 2),some (39,true)⟩,⟨some 43,.bi .lss (.t 41) (.t 42),some (39,true)⟩,⟨some 44,.pk (.t 39) (.t 43) (.c (.b false)),none⟩,⟨some 8,.mv (.t 44),none⟩]]) .ret) .skip)))))) (.seq (.seq (.reg [.seq [⟨some 9,.mv (.c (.i .i64 0)),none⟩]]) (.block 1 (.loop ref02_right.b1))) (.seq (.reg [.seq [⟨some 63,.fa 1 (.t 4),none⟩,⟨some 64,.ld false 1 (.t 63),none⟩,⟨some 65,.bi .eql (.t 64) (.c (.i .i64 0)),none⟩,⟨some 8,.mv (.t 65),none⟩]]) .ret))))), [.t 8]⟩
def ref01_Put.b1 : PCode := (.seq (.seq (.reg [.seq [⟨some 11,.mv (.t 0),none⟩,⟨some 12,.bi .geq (.t 11) (.c (.i .i64 128)),none⟩]]) (.cond (.t 12) .skip (.exit 0))) (.block 1 (.seq (.reg [.seq [⟨some 13,.mv (.t 4),none⟩,⟨some 14,.mv (.t 0),none⟩,⟨some 15,.bi .rem (.t 14) (.c (.i .i64 128)),none⟩,⟨some 16,.bi .add (.c (.i .i64 128)) (.t 15),none⟩,⟨some 17,.ci .u8 (.t 16),none⟩,⟨some 18,.bs 1 1 [.i .u8 0] [(0,1,.t 17)],none⟩,⟨some 19,.cbs (.t 18),none⟩,⟨some 20,.bi .add (.t 13) (.t 19),none⟩,⟨some 4,.mv (.t 20),none⟩]]) (.reg [.seq [⟨some 21,.mv (.t 0),none⟩,⟨some 22,.bi .quo (.t 21) (.c (.i .i64 128)),none⟩,⟨some 0,.mv (.t 22),none⟩]]))))
def ref01_Put.c : PFun := ⟨(.seq (.reg [.seq [⟨some 2,.mv (.c (.s (bs []))),none⟩,⟨some 3,.mv (.c (.i .i64 0)),none⟩]]) (.seq (.seq (.reg [.seq [⟨some 5,.mv (.t 0),none⟩,⟨some 6,.bi .lss (.t 5) (.c (.i .i64 0)),none⟩,⟨some 7,.mv (.t 6),none⟩,⟨some 8,.mv (.t 0),some (7,false)⟩,⟨some 9,.bi .gtr (.t 8) (.c (.i .i64 1099511627776)),some (7,false)⟩,⟨some 10,.pk (.t 7) (.c (.b true)) (.t 9),none⟩]]) (.cond (.t 10) (.seq (.reg [.seq [⟨some 2,.mv (.c (.s (bs []))),none⟩,⟨some 3,.mv (.c (.i .i64 1)),none⟩]]) .ret) .skip)) (.seq (.reg [.seq [⟨some 4,.mv (.c (.s (bs []))),none⟩]]) (.seq (.block 0 (.loop ref01_Put.b1)) (.seq (.reg [.seq [⟨some 23,.mv (.t 4),none⟩,⟨some 24,.mv (.t 0),none⟩,⟨some 25,.ci .u8 (.t 24),none⟩,⟨some 26,.bs 1 1 [.i .u8 0] [(0,1,.t 25)],none⟩,⟨some 27,.cbs (.t 26),none⟩,⟨some 28,.bi .add (.t 23) (.t 27),none⟩,⟨some 2,.mv (.t 28),none⟩,⟨some 3,.mv (.c (.i .i64 0)),none⟩]]) .ret))))), [.t 2,.t 3]⟩
def lcode_want.c : PFun := ⟨(.seq (.reg [.seq [⟨some 4,.mv (.t 0),none⟩,⟨some 5,.un .not (.t 4),none⟩]]) (.cond (.t 5) (.reg [.seq [⟨some 6,.mv (.t 1),none⟩,⟨some 7,.bd [.i .i64 0] [(0,1,.t 6)],none⟩,⟨some 8,.mi 87 (.t 7),none⟩,⟨none,.pa (.t 8),none⟩]]) .skip)), []⟩
def lcode_reader_number.c : PFun := ⟨(.seq (.reg [.seq [⟨some 2,.mv (.c (.i .i64 0)),none⟩]]) (.seq (.reg [.any [⟨some 7,.mv (.t 0),none⟩,⟨some 8,.nc (.t 7),none⟩,⟨some 9,.fa 0 (.t 8),none⟩,⟨some 10,.ld false 1 (.t 9),none⟩,⟨some 11,.mv (.t 0),none⟩,⟨some 12,.nc (.t 11),none⟩,⟨some 13,.fa 1 (.t 12),none⟩,⟨some 14,.ld false 1 (.t 13),none⟩] [],.seq [⟨some 15,.ca (.c (.fn (.func octet_Get.n) [] [])) [.t 10,.t 14],none⟩],.seq [⟨some 6,.mv (.t 15),none⟩],.any [⟨some 16,.ex (.t 6) 0,none⟩,⟨some 17,.ex (.t 6) 1,none⟩,⟨some 18,.ex (.t 6) 2,none⟩,⟨some 3,.mv (.t 16),none⟩,⟨some 4,.mv (.t 17),none⟩] [],.seq [⟨some 5,.mv (.t 18),none⟩]]) (.seq (.reg [.seq [⟨some 19,.mv (.t 5),none⟩,⟨some 20,.bi .eql (.t 19) (.c (.i .i64 0)),none⟩,⟨some 21,.mv (.t 5),none⟩,⟨some 22,.ca (.c (.fn (.func lcode_want.n) [] [])) [.t 20,.t 21],none⟩]]) (.seq (.reg [.seq [⟨some 23,.mv (.t 0),none⟩,⟨some 24,.mv (.t 4),none⟩,⟨some 25,.nc (.t 23),none⟩,⟨some 26,.fa 1 (.t 25),none⟩,⟨none,.st 1 (.t 26) (.t 24),none⟩]]) (.seq (.reg [.seq [⟨some 27,.mv (.t 3),none⟩,⟨some 2,.mv (.t 27),none⟩]]) .ret))))), [.t 2]⟩
def level_kinds.c : PFun := ⟨(.seq (.reg [.seq [⟨some 0,.mv (.c .nm),none⟩]]) (.seq (.reg [.seq [⟨some 1,.mm,none⟩,⟨some 2,.bd [.i .i64 0,.nf] [(0,1,.c (.i .i64 0)),(1,1,.c (.fn (.func level_kinds_1.n) [] []))],none⟩,⟨none,.mu (.one .i) (.t 1) (.c (.i .i64 1)) (.t 2),none⟩,⟨some 3,.bd [.i .i64 0,.nf] [(0,1,.c (.i .i64 1)),(1,1,.c (.fn (.func level_kinds_2.n) [] []))],none⟩,⟨none,.mu (.one .i) (.t 1) (.c (.i .i64 2)) (.t 3),none⟩,⟨some 4,.bd [.i .i64 0,.nf] [(0,1,.c (.i .i64 2)),(1,1,.c (.fn (.func level_kinds_3.n) [] []))],none⟩,⟨none,.mu (.one .i) (.t 1) (.c (.i .i64 3)) (.t 4),none⟩,⟨some 5,.bd [.i .i64 0,.nf] [(0,1,.c (.i .i64 2)),(1,1,.c (.fn (.func level_kinds_4.n) [] []))],none⟩,⟨none,.mu (.one .i) (.t 1) (.c (.i .i64 4)) (.t 5),none⟩,⟨some 6,.bd [.i .i64 0,.nf] [(0,1,.c (.i .i64 0)),(1,1,.c (.fn (.func level_kinds_5.n) [] []))],none⟩,⟨none,.mu (.one .i) (.t 1) (.c (.i .i64 5)) (.t 6),none⟩,⟨some 7,.bd [.i .i64 0,.nf] [(0,1,.c (.i .i64 0)),(1,1,.c (.fn (.func level_kinds_6.n) [] []))],none⟩,⟨none,.mu (.one .i) (.t 1) (.c (.i .i64 6)) (.t 7),none⟩,⟨some 8,.mv (.t 1),none⟩,⟨some 0,.mv (.t 8),none⟩]]) .ret)), [.t 0]⟩
def level_right_1.c : PFun := ⟨(.seq (.reg [.seq [⟨some 4,.bx (.t 0),none⟩,⟨some 5,.mv (.c (.b false)),none⟩]]) (.seq (.reg [.seq [⟨some 6,.ld true 3 (.t 4),none⟩,⟨some 7,.ld false 1 (.t 1),none⟩,⟨some 8,.ld false 1 (.t 2),none⟩,⟨some 9,.ld false 1 (.t 3),none⟩,⟨some 10,.bi .sub (.t 9) (.c (.i .i64 1)),none⟩,⟨some 11,.ca (.c (.fn (.func level_right.n) [] [])) [.t 6,.t 7,.t 8,.t 10],none⟩,⟨some 12,.un .not (.t 11),none⟩,⟨some 5,.mv (.t 12),none⟩]]) .ret)), [.t 5]⟩
def level_named.c : PFun := ⟨(.seq (.reg [.seq [⟨some 3,.bx (.t 0),none⟩,⟨some 6,.mv (.c (.b false)),none⟩]]) (.seq (.seq (.reg [.seq [⟨some 7,.fa 0 (.t 3),none⟩,⟨some 8,.ld false 1 (.t 7),none⟩]]) (.block 0 (.seq (.reg [.seq [⟨some 10,.bi .eql (.t 8) (.c (.i .i64 5)),none⟩,⟨some 9,.mv (.t 10),none⟩]]) (.cond (.t 9) (.seq (.reg [.seq [⟨some 11,.fa 1 (.t 3),none⟩,⟨some 12,.ld false 1 (.t 11),none⟩,⟨some 13,.bi .geq (.t 12) (.c (.i .i64 0)),none⟩,⟨some 14,.mv (.t 13),none⟩,⟨some 15,.fa 1 (.t 3),some (14,true)⟩,⟨some 16,.ld false 1 (.t 15),some (14,true)⟩,⟨some 17,.mv (.t 1),some (14,true)⟩,⟨some 18,.bi .lss (.t 16) (.t 17),some (14,true)⟩,⟨some 19,.pk (.t 14) (.t 18) (.c (.b false)),none⟩,⟨some 6,.mv (.t 19),none⟩]]) .ret) (.seq (.reg [.seq [⟨some 21,.bi .eql (.t 8) (.c (.i .i64 6)),none⟩,⟨some 20,.mv (.t 21),none⟩]]) (.cond (.t 20) (.seq (.reg [.seq [⟨some 22,.fa 1 (.t 3),none⟩,⟨some 23,.ld false 1 (.t 22),none⟩,⟨some 24,.bi .geq (.t 23) (.c (.i .i64 0)),none⟩,⟨some 25,.mv (.t 24),none⟩,⟨some 26,.fa 1 (.t 3),some (25,true)⟩,⟨some 27,.ld false 1 (.t 26),some (25,true)⟩,⟨some 28,.mv (.t 2),some (25,true)⟩,⟨some 29,.bi .lss (.t 27) (.t 28),some (25,true)⟩,⟨some 30,.pk (.t 25) (.t 29) (.c (.b false)),none⟩,⟨some 6,.mv (.t 30),none⟩]]) .ret) .skip)))))) (.seq (.reg [.seq [⟨some 31,.fa 1 (.t 3),none⟩,⟨some 32,.ld false 1 (.t 31),none⟩,⟨some 33,.bi .eql (.t 32) (.c (.i .i64 0)),none⟩,⟨some 6,.mv (.t 33),none⟩]]) .ret))), [.t 6]⟩
def slices_ContainsFunc_Level.c : PFun := ⟨(.seq (.reg [.seq [⟨some 4,.mv (.c (.b false)),none⟩]]) (.seq (.reg [.seq [⟨some 5,.mv (.t 0),none⟩,⟨some 6,.mv (.t 1),none⟩,⟨some 7,.ca (.c (.fn (.func slices_IndexFunc_Level.n) [] [])) [.t 5,.t 6],none⟩,⟨some 8,.bi .geq (.t 7) (.c (.i .i64 0)),none⟩,⟨some 4,.mv (.t 8),none⟩]]) .ret)), [.t 4]⟩
def ref03_reader_number.c : PFun := ⟨(.seq (.reg [.seq [⟨some 2,.mv (.c (.i .i64 0)),none⟩]]) (.seq (.reg [.any [⟨some 7,.mv (.t 0),none⟩,⟨some 8,.nc (.t 7),none⟩,⟨some 9,.fa 0 (.t 8),none⟩,⟨some 10,.ld false 1 (.t 9),none⟩,⟨some 11,.mv (.t 0),none⟩,⟨some 12,.nc (.t 11),none⟩,⟨some 13,.fa 1 (.t 12),none⟩,⟨some 14,.ld false 1 (.t 13),none⟩] [],.seq [⟨some 15,.ca (.c (.fn (.func ref01_Get.n) [] [])) [.t 10,.t 14],none⟩],.seq [⟨some 6,.mv (.t 15),none⟩],.any [⟨some 16,.ex (.t 6) 0,none⟩,⟨some 17,.ex (.t 6) 1,none⟩,⟨some 18,.ex (.t 6) 2,none⟩,⟨some 3,.mv (.t 16),none⟩,⟨some 4,.mv (.t 17),none⟩] [],.seq [⟨some 5,.mv (.t 18),none⟩]]) (.seq (.seq (.reg [.seq [⟨some 19,.mv (.t 5),none⟩,⟨some 20,.bi .neq (.t 19) (.c (.i .i64 0)),none⟩]]) (.cond (.t 20) (.seq (.reg [.seq [⟨some 21,.mv (.t 0),none⟩,⟨some 22,.mv (.t 5),none⟩,⟨some 23,.nc (.t 21),none⟩,⟨some 24,.fa 3 (.t 23),none⟩,⟨none,.st 1 (.t 24) (.t 22),none⟩]]) (.seq (.reg [.seq [⟨some 2,.mv (.c (.i .i64 0)),none⟩]]) .ret)) .skip)) (.seq (.reg [.seq [⟨some 25,.mv (.t 0),none⟩,⟨some 26,.mv (.t 4),none⟩,⟨some 27,.nc (.t 25),none⟩,⟨some 28,.fa 1 (.t 27),none⟩,⟨none,.st 1 (.t 28) (.t 26),none⟩]]) (.seq (.reg [.seq [⟨some 29,.mv (.t 3),none⟩,⟨some 2,.mv (.t 29),none⟩]]) .ret))))), [.t 2]⟩
def octet_digits.c : PFun := ⟨(.seq (.reg [.seq [⟨some 1,.bx (.t 0),none⟩,⟨some 2,.mv (.c .nf),none⟩]]) (.seq (.reg [.seq [⟨some 3,.mf (.func octet_digits_1.n) [] [.t 1],none⟩,⟨some 2,.mv (.t 3),none⟩]]) .ret)), [.t 2]⟩
def strings_Builder_copyCheck.c : PFun := ⟨(.seq (.reg [.seq [⟨some 2,.mv (.t 0),none⟩,⟨some 3,.nc (.t 2),none⟩,⟨some 4,.fa 0 (.t 3),none⟩,⟨some 5,.ld false 1 (.t 4),none⟩,⟨some 6,.ub (.pe false) (.t 5) (.c .np),none⟩]]) (.cond (.t 6) (.reg [.seq [⟨some 7,.mv (.t 0),none⟩,⟨some 8,.mv (.t 0),none⟩,⟨some 9,.ub .tu (.t 8) (.c .un),none⟩,⟨some 10,.mv (.t 9),none⟩,⟨some 11,.ub (.fu [81,82]) (.t 10) (.c .un),none⟩,⟨some 12,.nc (.t 7),none⟩,⟨some 13,.fa 0 (.t 12),none⟩,⟨none,.st 1 (.t 13) (.t 11),none⟩]]) (.seq (.reg [.seq [⟨some 14,.mv (.t 0),none⟩,⟨some 15,.nc (.t 14),none⟩,⟨some 16,.fa 0 (.t 15),none⟩,⟨some 17,.ld false 1 (.t 16),none⟩,⟨some 18,.mv (.t 0),none⟩,⟨some 19,.ub (.pe true) (.t 17) (.t 18),none⟩]]) (.cond (.t 19) (.cond (.c .un) .skip .skip) .skip)))), []⟩
def ref02_kids.c : PFun := ⟨(.seq (.reg [.seq [⟨some 2,.mv (.c (.i .i64 0)),none⟩]]) (.seq (.seq (.reg [.seq [⟨some 3,.mv (.t 0),none⟩]]) (.block 0 (.seq (.seq (.reg [.seq [⟨some 5,.bi .eql (.t 3) (.c (.i .i64 1)),none⟩,⟨some 4,.mv (.t 5),none⟩]]) (.cond (.t 4) .skip (.seq (.reg [.seq [⟨some 6,.bi .eql (.t 3) (.c (.i .i64 5)),none⟩,⟨some 4,.mv (.t 6),none⟩]]) (.cond (.t 4) .skip (.reg [.seq [⟨some 7,.bi .eql (.t 3) (.c (.i .i64 6)),none⟩,⟨some 4,.mv (.t 7),none⟩]]))))) (.cond (.t 4) (.seq (.reg [.seq [⟨some 2,.mv (.c (.i .i64 0)),none⟩]]) .ret) (.seq (.reg [.seq [⟨some 9,.bi .eql (.t 3) (.c (.i .i64 2)),none⟩,⟨some 8,.mv (.t 9),none⟩]]) (.cond (.t 8) (.seq (.reg [.seq [⟨some 2,.mv (.c (.i .i64 1)),none⟩]]) .ret) (.seq (.seq (.reg [.seq [⟨some 11,.bi .eql (.t 3) (.c (.i .i64 3)),none⟩,⟨some 10,.mv (.t 11),none⟩]]) (.cond (.t 10) .skip (.reg [.seq [⟨some 12,.bi .eql (.t 3) (.c (.i .i64 4)),none⟩,⟨some 10,.mv (.t 12),none⟩]]))) (.cond (.t 10) (.seq (.reg [.seq [⟨some 2,.mv (.c (.i .i64 2)),none⟩]]) .ret) .skip)))))))) (.seq (.reg [.seq [⟨some 2,.mv (.c (.i .i64 (-1))),none⟩]]) .ret))), [.t 2]⟩
def octet_Get.b1 : PCode := (.seq (.reg [.seq [⟨some 24,.bi .lss (.t 23) (.t 22),none⟩]]) (.seq (.cond (.t 24) .skip (.exit 0)) (.seq (.block 1 (.seq (.reg [.seq [⟨some 25,.mv (.t 23),none⟩,⟨some 26,.ia 1 (.t 21) (.t 23),none⟩,⟨some 27,.ld false 1 (.t 26),none⟩,⟨some 8,.mv (.t 25),none⟩,⟨some 9,.mv (.t 27),none⟩]]) (.seq (.seq (.reg [.seq [⟨some 28,.mv (.t 8),none⟩,⟨some 29,.bi .eql (.t 28) (.c (.i .i64 6)),none⟩,⟨some 30,.mv (.t 29),none⟩,⟨some 31,.mv (.t 8),some (30,false)⟩,⟨some 32,.bi .gtr (.t 31) (.c (.i .i64 0)),some (30,false)⟩,⟨some 33,.mv (.t 32),some (30,false)⟩,⟨some 34,.mv (.t 9),some (33,true)⟩,⟨some 35,.bi .eql (.t 34) (.c (.i .u8 0)),some (33,true)⟩,⟨some 36,.pk (.t 33) (.t 35) (.c (.b false)),some (30,false)⟩,⟨some 37,.pk (.t 30) (.c (.b true)) (.t 36),none⟩]]) (.cond (.t 37) (.seq (.reg [.seq [⟨some 4,.mv (.c (.i .i64 0)),none⟩,⟨some 5,.mv (.c (.i .i64 0)),none⟩,⟨some 6,.mv (.c (.i .i64 20)),none⟩]]) .ret) .skip)) (.seq (.reg [.seq [⟨some 38,.mv (.t 7),none⟩,⟨some 39,.mv (.t 9),none⟩,⟨some 40,.bi .and (.t 39) (.c (.i .u8 127)),none⟩,⟨some 41,.ci .u64 (.t 40),none⟩,⟨some 42,.mv (.t 8),none⟩,⟨some 43,.bi .mul (.c (.i .i64 7)) (.t 42),none⟩,⟨some 44,.bi .shl (.t 41) (.t 43),none⟩,⟨some 45,.bi .or (.t 38) (.t 44),none⟩,⟨some 7,.mv (.t 45),none⟩]]) (.block 2 (.seq (.reg [.seq [⟨some 53,.mv (.t 9),none⟩,⟨some 54,.bi .geq (.t 53) (.c (.i .u8 128)),none⟩,⟨some 52,.mv (.t 54),none⟩]]) (.cond (.t 52) .skip (.seq (.reg [.seq [⟨some 56,.mv (.t 7),none⟩,⟨some 57,.bi .gtr (.t 56) (.c (.i .u64 1099511627776)),none⟩,⟨some 55,.mv (.t 57),none⟩]]) (.cond (.t 55) (.seq (.reg [.seq [⟨some 4,.mv (.c (.i .i64 0)),none⟩,⟨some 5,.mv (.c (.i .i64 0)),none⟩,⟨some 6,.mv (.c (.i .i64 20)),none⟩]]) .ret) (.seq (.reg [.seq [⟨some 46,.mv (.t 7),none⟩,⟨some 47,.ci .i64 (.t 46),none⟩,⟨some 48,.mv (.t 1),none⟩,⟨some 49,.mv (.t 8),none⟩,⟨some 50,.bi .add (.t 48) (.t 49),none⟩,⟨some 51,.bi .add (.t 50) (.c (.i .i64 1)),none⟩,⟨some 4,.mv (.t 47),none⟩,⟨some 5,.mv (.t 51),none⟩,⟨some 6,.mv (.c (.i .i64 0)),none⟩]]) .ret)))))))))) (.reg [.seq [⟨some 58,.bi .add (.t 23) (.c (.i .i64 1)),none⟩,⟨some 23,.mv (.t 58),none⟩]]))))
def octet_Get.c : PFun := ⟨(.seq (.reg [.seq [⟨some 4,.mv (.c (.i .i64 0)),none⟩,⟨some 5,.mv (.c (.i .i64 0)),none⟩,⟨some 6,.mv (.c (.i .i64 0)),none⟩]]) (.seq (.seq (.reg [.seq [⟨some 10,.mv (.t 1),none⟩,⟨some 11,.bi .lss (.t 10) (.c (.i .i64 0)),none⟩,⟨some 12,.mv (.t 11),none⟩,⟨some 13,.mv (.t 1),some (12,false)⟩,⟨some 14,.mv (.t 0),some (12,false)⟩,⟨some 15,.ln .s (.t 14),some (12,false)⟩,⟨some 16,.bi .gtr (.t 13) (.t 15),some (12,false)⟩,⟨some 17,.pk (.t 12) (.c (.b true)) (.t 16),none⟩]]) (.cond (.t 17) (.seq (.reg [.seq [⟨some 4,.mv (.c (.i .i64 0)),none⟩,⟨some 5,.mv (.c (.i .i64 0)),none⟩,⟨some 6,.mv (.c (.i .i64 1)),none⟩]]) .ret) .skip)) (.seq (.reg [.seq [⟨some 7,.mv (.c (.i .u64 0)),none⟩]]) (.seq (.seq (.reg [.seq [⟨some 18,.mv (.t 0),none⟩,⟨some 19,.mv (.t 1),none⟩,⟨some 20,.ss (.t 18) (some (.t 19)) none,none⟩,⟨some 21,.csb (.t 20),none⟩,⟨some 22,.ln .l (.t 21),none⟩,⟨some 23,.mv (.c (.i .i64 0)),none⟩]]) (.block 0 (.loop octet_Get.b1))) (.seq (.reg [.seq [⟨some 4,.mv (.c (.i .i64 0)),none⟩,⟨some 5,.mv (.c (.i .i64 0)),none⟩,⟨some 6,.mv (.c (.i .i64 21)),none⟩]]) .ret))))), [.t 4,.t 5,.t 6]⟩
def level_kinds_1.c : PFun := ⟨(.seq (.reg [.seq [⟨some 3,.bx (.t 0),none⟩,⟨some 4,.bx (.t 1),none⟩,⟨some 6,.mv (.c (.i .i64 0)),none⟩]]) (.seq (.reg [.seq [⟨some 6,.mv (.c (.i .i64 0)),none⟩]]) .ret)), [.t 6]⟩
def level_kinds_2.c : PFun := ⟨(.seq (.reg [.seq [⟨some 3,.bx (.t 0),none⟩,⟨some 4,.bx (.t 1),none⟩,⟨some 6,.mv (.c (.i .i64 0)),none⟩]]) (.seq (.reg [.seq [⟨some 7,.mv (.t 2),none⟩,⟨some 8,.ia 1 (.t 7) (.c (.i .i64 0)),none⟩,⟨some 9,.ld false 1 (.t 8),none⟩,⟨some 10,.bi .add (.t 9) (.c (.i .i64 1)),none⟩,⟨some 6,.mv (.t 10),none⟩]]) .ret)), [.t 6]⟩
def level_kinds_3.c : PFun := ⟨(.seq (.reg [.seq [⟨some 3,.bx (.t 0),none⟩,⟨some 4,.bx (.t 1),none⟩,⟨some 6,.mv (.c (.i .i64 0)),none⟩]]) (.seq (.reg [.any [⟨some 7,.mv (.t 2),none⟩,⟨some 8,.ia 1 (.t 7) (.c (.i .i64 0)),none⟩,⟨some 9,.ld false 1 (.t 8),none⟩,⟨some 10,.mv (.t 2),none⟩,⟨some 11,.ia 1 (.t 10) (.c (.i .i64 1)),none⟩,⟨some 12,.ld false 1 (.t 11),none⟩] [],.seq [⟨some 13,.mx [.t 9,.t 12],none⟩],.seq [⟨some 6,.mv (.t 13),none⟩]]) .ret)), [.t 6]⟩
def level_kinds_4.c : PFun := ⟨(.seq (.reg [.seq [⟨some 3,.bx (.t 0),none⟩,⟨some 4,.bx (.t 1),none⟩,⟨some 6,.mv (.c (.i .i64 0)),none⟩]]) (.seq (.reg [.any [⟨some 7,.mv (.t 2),none⟩,⟨some 8,.ia 1 (.t 7) (.c (.i .i64 0)),none⟩,⟨some 9,.ld false 1 (.t 8),none⟩,⟨some 10,.mv (.t 2),none⟩,⟨some 11,.ia 1 (.t 10) (.c (.i .i64 1)),none⟩,⟨some 12,.ld false 1 (.t 11),none⟩] [],.seq [⟨some 13,.ca (.c (.fn (.func level_imax.n) [] [])) [.t 9,.t 12],none⟩],.seq [⟨some 6,.mv (.t 13),none⟩]]) .ret)), [.t 6]⟩
def level_imax.c : PFun := ⟨(.seq (.reg [.seq [⟨some 4,.mv (.c (.i .i64 0)),none⟩]]) (.seq (.seq (.reg [.seq [⟨some 5,.mv (.t 1),none⟩,⟨some 6,.bi .eql (.t 5) (.c (.i .i64 0)),none⟩]]) (.cond (.t 6) (.seq (.reg [.seq [⟨some 4,.mv (.c (.i .i64 0)),none⟩]]) .ret) .skip)) (.seq (.reg [.seq [⟨some 7,.mv (.t 0),none⟩,⟨some 8,.mv (.t 1),none⟩,⟨some 9,.mx [.t 7,.t 8],none⟩,⟨some 4,.mv (.t 9),none⟩]]) .ret))), [.t 4]⟩
def level_kinds_5.c : PFun := ⟨(.seq (.reg [.seq [⟨some 3,.bx (.t 0),none⟩,⟨some 4,.bx (.t 1),none⟩,⟨some 6,.mv (.c (.i .i64 0)),none⟩]]) (.seq (.reg [.seq [⟨some 7,.fa 0 (.t 4),none⟩,⟨some 8,.ld false 1 (.t 7),none⟩,⟨some 9,.fa 1 (.t 3),none⟩,⟨some 10,.ld false 1 (.t 9),none⟩,⟨some 11,.ia 1 (.t 8) (.t 10),none⟩,⟨some 12,.ld false 1 (.t 11),none⟩,⟨some 6,.mv (.t 12),none⟩]]) .ret)), [.t 6]⟩
def level_kinds_6.c : PFun := ⟨(.seq (.reg [.seq [⟨some 3,.bx (.t 0),none⟩,⟨some 4,.bx (.t 1),none⟩,⟨some 6,.mv (.c (.i .i64 0)),none⟩]]) (.seq (.reg [.seq [⟨some 7,.fa 1 (.t 4),none⟩,⟨some 8,.ld false 1 (.t 7),none⟩,⟨some 9,.fa 1 (.t 3),none⟩,⟨some 10,.ld false 1 (.t 9),none⟩,⟨some 11,.ia 1 (.t 8) (.t 10),none⟩,⟨some 12,.ld false 1 (.t 11),none⟩,⟨some 6,.mv (.t 12),none⟩]]) .ret)), [.t 6]⟩
def slices_IndexFunc_Level.b1 : PCode := (.seq (.reg [.seq [⟨some 9,.bi .lss (.t 8) (.t 7),none⟩]]) (.seq (.cond (.t 9) .skip (.exit 0)) (.seq (.block 1 (.seq (.reg [.seq [⟨some 10,.mv (.t 8),none⟩,⟨some 5,.mv (.t 10),none⟩]]) (.seq (.reg [.seq [⟨some 11,.mv (.t 1),none⟩,⟨some 12,.mv (.t 0),none⟩,⟨some 13,.mv (.t 5),none⟩,⟨some 14,.ia 3 (.t 12) (.t 13),none⟩,⟨some 15,.ld true 3 (.t 14),none⟩,⟨some 16,.ca (.t 11) [.t 15],none⟩]]) (.cond (.t 16) (.seq (.reg [.seq [⟨some 17,.mv (.t 5),none⟩,⟨some 4,.mv (.t 17),none⟩]]) .ret) .skip)))) (.reg [.seq [⟨some 18,.bi .add (.t 8) (.c (.i .i64 1)),none⟩,⟨some 8,.mv (.t 18),none⟩]]))))
def slices_IndexFunc_Level.c : PFun := ⟨(.seq (.reg [.seq [⟨some 4,.mv (.c (.i .i64 0)),none⟩]]) (.seq (.seq (.reg [.seq [⟨some 6,.mv (.t 0),none⟩,⟨some 7,.ln .l (.t 6),none⟩,⟨some 8,.mv (.c (.i .i64 0)),none⟩]]) (.block 0 (.loop slices_IndexFunc_Level.b1))) (.seq (.reg [.seq [⟨some 4,.mv (.c (.i .i64 (-1))),none⟩]]) .ret))), [.t 4]⟩
def ref01_Get.b1 : PCode := (.seq (.seq (.reg [.seq [⟨some 20,.mv (.t 9),none⟩,⟨some 21,.mv (.t 0),none⟩,⟨some 22,.ln .s (.t 21),none⟩,⟨some 23,.bi .lss (.t 20) (.t 22),none⟩]]) (.cond (.t 23) .skip (.exit 0))) (.seq (.block 1 (.seq (.reg [.seq [⟨some 26,.mv (.t 0),none⟩,⟨some 27,.mv (.t 9),none⟩,⟨some 28,.xs (.t 26) (.t 27),none⟩,⟨some 29,.ci .i64 (.t 28),none⟩,⟨some 10,.mv (.t 29),none⟩]]) (.seq (.seq (.reg [.seq [⟨some 30,.mv (.t 9),none⟩,⟨some 31,.mv (.t 1),none⟩,⟨some 32,.bi .gtr (.t 30) (.t 31),none⟩,⟨some 33,.mv (.t 32),none⟩,⟨some 34,.mv (.t 10),some (33,true)⟩,⟨some 35,.bi .eql (.t 34) (.c (.i .i64 0)),some (33,true)⟩,⟨some 36,.pk (.t 33) (.t 35) (.c (.b false)),none⟩,⟨some 37,.mv (.t 36),none⟩,⟨some 38,.mv (.t 9),some (37,false)⟩,⟨some 39,.mv (.t 1),some (37,false)⟩,⟨some 40,.bi .sub (.t 38) (.t 39),some (37,false)⟩,⟨some 41,.bi .gtr (.t 40) (.c (.i .i64 5)),some (37,false)⟩,⟨some 42,.pk (.t 37) (.c (.b true)) (.t 41),none⟩]]) (.cond (.t 42) (.seq (.reg [.seq [⟨some 4,.mv (.c (.i .i64 0)),none⟩,⟨some 5,.mv (.c (.i .i64 0)),none⟩,⟨some 6,.mv (.c (.i .i64 20)),none⟩]]) .ret) .skip)) (.seq (.reg [.seq [⟨some 43,.mv (.t 7),none⟩,⟨some 44,.mv (.t 10),none⟩,⟨some 45,.bi .rem (.t 44) (.c (.i .i64 128)),none⟩,⟨some 46,.mv (.t 8),none⟩,⟨some 47,.bi .mul (.t 45) (.t 46),none⟩,⟨some 48,.bi .add (.t 43) (.t 47),none⟩,⟨some 7,.mv (.t 48),none⟩]]) (.seq (.reg [.seq [⟨some 49,.mv (.t 8),none⟩,⟨some 50,.bi .mul (.t 49) (.c (.i .i64 128)),none⟩,⟨some 8,.mv (.t 50),none⟩]]) (.seq (.reg [.seq [⟨some 51,.mv (.t 10),none⟩,⟨some 52,.bi .lss (.t 51) (.c (.i .i64 128)),none⟩]]) (.cond (.t 52) (.seq (.seq (.reg [.seq [⟨some 53,.mv (.t 7),none⟩,⟨some 54,.bi .gtr (.t 53) (.c (.i .i64 1099511627776)),none⟩]]) (.cond (.t 54) (.seq (.reg [.seq [⟨some 4,.mv (.c (.i .i64 0)),none⟩,⟨some 5,.mv (.c (.i .i64 0)),none⟩,⟨some 6,.mv (.c (.i .i64 20)),none⟩]]) .ret) .skip)) (.seq (.reg [.seq [⟨some 55,.mv (.t 7),none⟩,⟨some 56,.mv (.t 9),none⟩,⟨some 57,.bi .add (.t 56) (.c (.i .i64 1)),none⟩,⟨some 4,.mv (.t 55),none⟩,⟨some 5,.mv (.t 57),none⟩,⟨some 6,.mv (.c (.i .i64 0)),none⟩]]) .ret)) .skip))))))) (.reg [.seq [⟨some 24,.mv (.t 9),none⟩,⟨some 25,.bi .add (.t 24) (.c (.i .i64 1)),none⟩,⟨some 9,.mv (.t 25),none⟩]])))
def ref01_Get.c : PFun := ⟨(.seq (.reg [.seq [⟨some 4,.mv (.c (.i .i64 0)),none⟩,⟨some 5,.mv (.c (.i .i64 0)),none⟩,⟨some 6,.mv (.c (.i .i64 0)),none⟩]]) (.seq (.seq (.reg [.seq [⟨some 11,.mv (.t 1),none⟩,⟨some 12,.bi .lss (.t 11) (.c (.i .i64 0)),none⟩,⟨some 13,.mv (.t 12),none⟩,⟨some 14,.mv (.t 1),some (13,false)⟩,⟨some 15,.mv (.t 0),some (13,false)⟩,⟨some 16,.ln .s (.t 15),some (13,false)⟩,⟨some 17,.bi .gtr (.t 14) (.t 16),some (13,false)⟩,⟨some 18,.pk (.t 13) (.c (.b true)) (.t 17),none⟩]]) (.cond (.t 18) (.seq (.reg [.seq [⟨some 4,.mv (.c (.i .i64 0)),none⟩,⟨some 5,.mv (.c (.i .i64 0)),none⟩,⟨some 6,.mv (.c (.i .i64 1)),none⟩]]) .ret) .skip)) (.seq (.reg [.seq [⟨some 7,.mv (.c (.i .i64 0)),none⟩]]) (.seq (.reg [.seq [⟨some 8,.mv (.c (.i .i64 1)),none⟩]]) (.seq (.seq (.reg [.seq [⟨some 19,.mv (.t 1),none⟩,⟨some 9,.mv (.t 19),none⟩]]) (.block 0 (.loop ref01_Get.b1))) (.seq (.reg [.seq [⟨some 4,.mv (.c (.i .i64 0)),none⟩,⟨some 5,.mv (.c (.i .i64 0)),none⟩,⟨some 6,.mv (.c (.i .i64 21)),none⟩]]) .ret)))))), [.t 4,.t 5,.t 6]⟩
def octet_digits_1.b1 : PCode := (.seq (.seq (.reg [.seq [⟨some 3,.ld false 1 (.t 1),none⟩,⟨some 4,.bi .geq (.t 3) (.c (.i .u64 128)),none⟩]]) (.cond (.t 4) .skip (.exit 0))) (.block 1 (.seq (.seq (.reg [.seq [⟨some 5,.mv (.t 0),none⟩,⟨some 6,.ld false 1 (.t 1),none⟩,⟨some 7,.bi .and (.t 6) (.c (.i .u64 127)),none⟩,⟨some 8,.ci .u8 (.t 7),none⟩,⟨some 9,.ca (.t 5) [.t 8,.c (.b true)],none⟩,⟨some 10,.un .not (.t 9),none⟩]]) (.cond (.t 10) .ret .skip)) (.reg [.seq [⟨some 11,.ld false 1 (.t 1),none⟩,⟨some 12,.bi .shr (.t 11) (.c (.i .u64 7)),none⟩,⟨none,.st 1 (.t 1) (.t 12),none⟩]]))))
def octet_digits_1.c : PFun := ⟨(.seq (.block 0 (.loop octet_digits_1.b1)) (.reg [.seq [⟨some 13,.mv (.t 0),none⟩,⟨some 14,.ld false 1 (.t 1),none⟩,⟨some 15,.ci .u8 (.t 14),none⟩,⟨some 16,.ca (.t 13) [.t 15,.c (.b false)],none⟩]])), []⟩

def ctx : Ctx where
  fns := fun f => match f with
    | 8 => some law03_LcodeGet.c
    | 9 => some law03_LcodeSmall.c
    | 10 => some law03_LcodePut.c
    | 11 => some law03_LcodeDeep.c
    | 12 => some law03_LcodeBack.c
    | 13 => some law03_LcodeOnce.c
    | 15 => some ref02_Nodes.c
    | 18 => some law02_Made.c
    | 22 => some ref02_Same.c
    | 24 => some law03_get.c
    | 25 => some lcode_Put.c
    | 26 => some ref03_Put.c
    | 27 => some law03_full.c
    | 28 => some lcode_Get.c
    | 33 => some law02_Maker_Level.c
    | 35 => some level_Right.c
    | 41 => some ref03_Get.c
    | 42 => some lcode_write.c
    | 43 => some strings_Builder_String.c
    | 44 => some ref02_Right.c
    | 45 => some ref03_text.c
    | 46 => some lcode_Get_1.c
    | 47 => some lcode_reader_level.c
    | 53 => some law02_Maker_Pick.c
    | 54 => some level_nodes.c
    | 55 => some level_right.c
    | 57 => some ref03_reader_level.c
    | 58 => some lcode_write_1.c
    | 59 => some octet_Put.c
    | 60 => some strings_Builder_WriteString.c
    | 61 => some lcode_named.c
    | 62 => some ref02_right.c
    | 63 => some ref01_Put.c
    | 64 => some lcode_want.c
    | 65 => some lcode_reader_number.c
    | 67 => some level_kinds.c
    | 68 => some level_right_1.c
    | 69 => some level_named.c
    | 70 => some slices_ContainsFunc_Level.c
    | 71 => some ref03_reader_number.c
    | 72 => some octet_digits.c
    | 73 => some strings_Builder_copyCheck.c
    | 74 => some ref02_kids.c
    | 75 => some octet_Get.c
    | 76 => some level_kinds_1.c
    | 77 => some level_kinds_2.c
    | 78 => some level_kinds_3.c
    | 79 => some level_kinds_4.c
    | 80 => some level_imax.c
    | 81 => some level_kinds_5.c
    | 82 => some level_kinds_6.c
    | 83 => some slices_IndexFunc_Level.c
    | 84 => some ref01_Get.c
    | 85 => some octet_digits_1.c
    | _ => none
  opn := fun f => match f with
    | 72 => true
    | 33 => true
    | 53 => true
    | 47 => true
    | 65 => true
    | 64 => true
    | 42 => true
    | 58 => true
    | 60 => true
    | 43 => true
    | 73 => true
    | 57 => true
    | 71 => true
    | _ => false
  prim := fun f => match f with
    | 34 => some (cloneH 4)
    | 23 => some (constH (.b true))
    | _ => none
  frz := fun f => match f with
    | _ => false

def ctxo : Ctx where
  fns := fun f => match f with
    | 8 => some law03_LcodeGet.c
    | 9 => some law03_LcodeSmall.c
    | 10 => some law03_LcodePut.c
    | 11 => some law03_LcodeDeep.c
    | 12 => some law03_LcodeBack.c
    | 13 => some law03_LcodeOnce.c
    | 15 => some ref02_Nodes.c
    | 18 => some law02_Made.c
    | 22 => some ref02_Same.c
    | 23 => some law03_awake.c
    | 24 => some law03_get.c
    | 25 => some lcode_Put.c
    | 26 => some ref03_Put.c
    | 27 => some law03_full.c
    | 28 => some lcode_Get.c
    | 33 => some law02_Maker_Level.c
    | 35 => some level_Right.c
    | 41 => some ref03_Get.c
    | 42 => some lcode_write.c
    | 43 => some strings_Builder_String.c
    | 44 => some ref02_Right.c
    | 45 => some ref03_text.c
    | 46 => some lcode_Get_1.c
    | 47 => some lcode_reader_level.c
    | 53 => some law02_Maker_Pick.c
    | 54 => some level_nodes.c
    | 55 => some level_right.c
    | 57 => some ref03_reader_level.c
    | 58 => some lcode_write_1.c
    | 59 => some octet_Put.c
    | 60 => some strings_Builder_WriteString.c
    | 61 => some lcode_named.c
    | 62 => some ref02_right.c
    | 63 => some ref01_Put.c
    | 64 => some lcode_want.c
    | 65 => some lcode_reader_number.c
    | 67 => some level_kinds.c
    | 68 => some level_right_1.c
    | 69 => some level_named.c
    | 70 => some slices_ContainsFunc_Level.c
    | 71 => some ref03_reader_number.c
    | 72 => some octet_digits.c
    | 73 => some strings_Builder_copyCheck.c
    | 74 => some ref02_kids.c
    | 75 => some octet_Get.c
    | 76 => some level_kinds_1.c
    | 77 => some level_kinds_2.c
    | 78 => some level_kinds_3.c
    | 79 => some level_kinds_4.c
    | 80 => some level_imax.c
    | 81 => some level_kinds_5.c
    | 82 => some level_kinds_6.c
    | 83 => some slices_IndexFunc_Level.c
    | 84 => some ref01_Get.c
    | 85 => some octet_digits_1.c
    | _ => none
  opn := fun f => match f with
    | 72 => true
    | 33 => true
    | 53 => true
    | 47 => true
    | 65 => true
    | 64 => true
    | 42 => true
    | 58 => true
    | 60 => true
    | 43 => true
    | 73 => true
    | 57 => true
    | 71 => true
    | _ => false
  prim := fun f => match f with
    | 34 => some (cloneH 4)
    | _ => none
  frz := fun f => match f with
    | _ => false

@[simp ↓] theorem law03_LcodeGet.fz : ctx.frz 8 = false := rfl
@[simp ↓] theorem law03_LcodeSmall.fz : ctx.frz 9 = false := rfl
@[simp ↓] theorem law03_LcodePut.fz : ctx.frz 10 = false := rfl
@[simp ↓] theorem law03_LcodeDeep.fz : ctx.frz 11 = false := rfl
@[simp ↓] theorem law03_LcodeBack.fz : ctx.frz 12 = false := rfl
@[simp ↓] theorem law03_LcodeOnce.fz : ctx.frz 13 = false := rfl
@[simp ↓] theorem ref02_Nodes.fz : ctx.frz 15 = false := rfl
@[simp ↓] theorem law02_Made.fz : ctx.frz 18 = false := rfl
@[simp ↓] theorem ref02_Same.fz : ctx.frz 22 = false := rfl
@[simp ↓] theorem law03_awake.fz : ctx.frz 23 = false := rfl
@[simp] theorem law03_awake.pr {first cap args : List V} {m : Sto} {x : Nat} {K : CR → Sto → Nat → Prop} : CallX ctx (.fn (.func 23) first cap) args m x K = opK (constH (.b true) (first ++ args ++ cap) m x) fun v ws => K (.ret v) (m.app ws) (x + 1) := CallX_pr rfl
@[simp ↓] theorem law03_get.fz : ctx.frz 24 = false := rfl
@[simp ↓] theorem lcode_Put.fz : ctx.frz 25 = false := rfl
@[simp] theorem lcode_Put.cl {K} : CallX ctx (.fn (.func 25) u y) z m x K = FrK (freezeL m (u ++ z ++ y)) (clK ctx 25 K m x) (wpCall ctx (.fn (.func 25) u y) z m x K) := CallX_cl rfl rfl
@[simp ↓] theorem ref03_Put.fz : ctx.frz 26 = false := rfl
@[simp ↓] theorem law03_full.fz : ctx.frz 27 = false := rfl
@[simp ↓] theorem lcode_Get.fz : ctx.frz 28 = false := rfl
@[simp] theorem lcode_Get.cl {K} : CallX ctx (.fn (.func 28) u y) z m x K = FrK (freezeL m (u ++ z ++ y)) (clK ctx 28 K m x) (wpCall ctx (.fn (.func 28) u y) z m x K) := CallX_cl rfl rfl
@[simp ↓] theorem law02_Maker_Level.fz : ctx.frz 33 = false := rfl
@[simp] theorem law02_Maker_Level.op : ctx.opn 33 = true := rfl
@[simp ↓] theorem slices_Clone_Node.fz : ctx.frz 34 = false := rfl
@[simp ↓] theorem level_Right.fz : ctx.frz 35 = false := rfl
@[simp] theorem level_Right.cl {K} : CallX ctx (.fn (.func 35) u y) z m x K = FrK (freezeL m (u ++ z ++ y)) (clK ctx 35 K m x) (wpCall ctx (.fn (.func 35) u y) z m x K) := CallX_cl rfl rfl
@[simp ↓] theorem ref03_Get.fz : ctx.frz 41 = false := rfl
@[simp ↓] theorem lcode_write.fz : ctx.frz 42 = false := rfl
@[simp] theorem lcode_write.op : ctx.opn 42 = true := rfl
@[simp ↓] theorem strings_Builder_String.fz : ctx.frz 43 = false := rfl
@[simp] theorem strings_Builder_String.op : ctx.opn 43 = true := rfl
@[simp ↓] theorem ref02_Right.fz : ctx.frz 44 = false := rfl
@[simp ↓] theorem ref03_text.fz : ctx.frz 45 = false := rfl
@[simp ↓] theorem lcode_Get_1.fz : ctx.frz 46 = false := rfl
@[simp ↓] theorem lcode_reader_level.fz : ctx.frz 47 = false := rfl
@[simp] theorem lcode_reader_level.op : ctx.opn 47 = true := rfl
@[simp ↓] theorem law02_Maker_Pick.fz : ctx.frz 53 = false := rfl
@[simp] theorem law02_Maker_Pick.op : ctx.opn 53 = true := rfl
@[simp ↓] theorem level_nodes.fz : ctx.frz 54 = false := rfl
@[simp] theorem level_nodes.cl {K} : CallX ctx (.fn (.func 54) u y) z m x K = FrK (freezeL m (u ++ z ++ y)) (clK ctx 54 K m x) (wpCall ctx (.fn (.func 54) u y) z m x K) := CallX_cl rfl rfl
@[simp ↓] theorem level_right.fz : ctx.frz 55 = false := rfl
@[simp] theorem level_right.cl {K} : CallX ctx (.fn (.func 55) u y) z m x K = FrK (freezeL m (u ++ z ++ y)) (clK ctx 55 K m x) (wpCall ctx (.fn (.func 55) u y) z m x K) := CallX_cl rfl rfl
@[simp ↓] theorem ref03_reader_level.fz : ctx.frz 57 = false := rfl
@[simp] theorem ref03_reader_level.op : ctx.opn 57 = true := rfl
@[simp ↓] theorem lcode_write_1.fz : ctx.frz 58 = false := rfl
@[simp] theorem lcode_write_1.op : ctx.opn 58 = true := rfl
@[simp ↓] theorem octet_Put.fz : ctx.frz 59 = false := rfl
@[simp] theorem octet_Put.cl {K} : CallX ctx (.fn (.func 59) u y) z m x K = FrK (freezeL m (u ++ z ++ y)) (clK ctx 59 K m x) (wpCall ctx (.fn (.func 59) u y) z m x K) := CallX_cl rfl rfl
@[simp ↓] theorem strings_Builder_WriteString.fz : ctx.frz 60 = false := rfl
@[simp] theorem strings_Builder_WriteString.op : ctx.opn 60 = true := rfl
@[simp ↓] theorem lcode_named.fz : ctx.frz 61 = false := rfl
@[simp] theorem lcode_named.cl {K} : CallX ctx (.fn (.func 61) u y) z m x K = FrK (freezeL m (u ++ z ++ y)) (clK ctx 61 K m x) (wpCall ctx (.fn (.func 61) u y) z m x K) := CallX_cl rfl rfl
@[simp] theorem lcode_named.cq {K} : CallQ ctx (.fn (.func 61) u y) z m x K = FrK (freezeL m (u ++ z ++ y)) (cqK ctx 61 K m x) (wpQuiet ctx (.fn (.func 61) u y) z m x K) := CallQ_cl rfl rfl
@[simp ↓] theorem ref02_right.fz : ctx.frz 62 = false := rfl
@[simp ↓] theorem ref01_Put.fz : ctx.frz 63 = false := rfl
@[simp ↓] theorem lcode_want.fz : ctx.frz 64 = false := rfl
@[simp] theorem lcode_want.op : ctx.opn 64 = true := rfl
@[simp ↓] theorem lcode_reader_number.fz : ctx.frz 65 = false := rfl
@[simp] theorem lcode_reader_number.op : ctx.opn 65 = true := rfl
@[simp ↓] theorem level_kinds.fz : ctx.frz 67 = false := rfl
@[simp] theorem level_kinds.cq {K} : CallQ ctx (.fn (.func 67) u y) z m x K = FrK (freezeL m (u ++ z ++ y)) (cqK ctx 67 K m x) (wpQuiet ctx (.fn (.func 67) u y) z m x K) := CallQ_cl rfl rfl
@[simp ↓] theorem level_right_1.fz : ctx.frz 68 = false := rfl
@[simp ↓] theorem level_named.fz : ctx.frz 69 = false := rfl
@[simp] theorem level_named.cl {K} : CallX ctx (.fn (.func 69) u y) z m x K = FrK (freezeL m (u ++ z ++ y)) (clK ctx 69 K m x) (wpCall ctx (.fn (.func 69) u y) z m x K) := CallX_cl rfl rfl
@[simp ↓] theorem slices_ContainsFunc_Level.fz : ctx.frz 70 = false := rfl
@[simp] theorem slices_ContainsFunc_Level.cl {K} : CallX ctx (.fn (.func 70) u y) z m x K = FrK (freezeL m (u ++ z ++ y)) (clK ctx 70 K m x) (wpCall ctx (.fn (.func 70) u y) z m x K) := CallX_cl rfl rfl
@[simp ↓] theorem ref03_reader_number.fz : ctx.frz 71 = false := rfl
@[simp] theorem ref03_reader_number.op : ctx.opn 71 = true := rfl
@[simp ↓] theorem octet_digits.fz : ctx.frz 72 = false := rfl
@[simp] theorem octet_digits.op : ctx.opn 72 = true := rfl
@[simp ↓] theorem strings_Builder_copyCheck.fz : ctx.frz 73 = false := rfl
@[simp] theorem strings_Builder_copyCheck.op : ctx.opn 73 = true := rfl
@[simp ↓] theorem ref02_kids.fz : ctx.frz 74 = false := rfl
@[simp ↓] theorem octet_Get.fz : ctx.frz 75 = false := rfl
@[simp] theorem octet_Get.cl {K} : CallX ctx (.fn (.func 75) u y) z m x K = FrK (freezeL m (u ++ z ++ y)) (clK ctx 75 K m x) (wpCall ctx (.fn (.func 75) u y) z m x K) := CallX_cl rfl rfl
@[simp ↓] theorem level_kinds_1.fz : ctx.frz 76 = false := rfl
@[simp ↓] theorem level_kinds_2.fz : ctx.frz 77 = false := rfl
@[simp ↓] theorem level_kinds_3.fz : ctx.frz 78 = false := rfl
@[simp ↓] theorem level_kinds_4.fz : ctx.frz 79 = false := rfl
@[simp ↓] theorem level_imax.fz : ctx.frz 80 = false := rfl
@[simp ↓] theorem level_kinds_5.fz : ctx.frz 81 = false := rfl
@[simp ↓] theorem level_kinds_6.fz : ctx.frz 82 = false := rfl
@[simp ↓] theorem slices_IndexFunc_Level.fz : ctx.frz 83 = false := rfl
@[simp] theorem slices_IndexFunc_Level.cl {K} : CallX ctx (.fn (.func 83) u y) z m x K = FrK (freezeL m (u ++ z ++ y)) (clK ctx 83 K m x) (wpCall ctx (.fn (.func 83) u y) z m x K) := CallX_cl rfl rfl
@[simp ↓] theorem ref01_Get.fz : ctx.frz 84 = false := rfl
@[simp ↓] theorem octet_digits_1.fz : ctx.frz 85 = false := rfl
set_option maxRecDepth 100000 in
theorem law03_LcodeGet.k : compF Go.Proofs.Try.prog Go.Proofs.Try.f8 = some law03_LcodeGet.c := by kernel_rfl
set_option maxRecDepth 100000 in
theorem law03_LcodeSmall.k : compF Go.Proofs.Try.prog Go.Proofs.Try.f9 = some law03_LcodeSmall.c := by kernel_rfl
set_option maxRecDepth 100000 in
theorem law03_LcodePut.k : compF Go.Proofs.Try.prog Go.Proofs.Try.f10 = some law03_LcodePut.c := by kernel_rfl
set_option maxRecDepth 100000 in
theorem law03_LcodeDeep.k : compF Go.Proofs.Try.prog Go.Proofs.Try.f11 = some law03_LcodeDeep.c := by kernel_rfl
set_option maxRecDepth 100000 in
theorem law03_LcodeBack.k : compF Go.Proofs.Try.prog Go.Proofs.Try.f12 = some law03_LcodeBack.c := by kernel_rfl
set_option maxRecDepth 100000 in
theorem law03_LcodeOnce.k : compF Go.Proofs.Try.prog Go.Proofs.Try.f13 = some law03_LcodeOnce.c := by kernel_rfl
theorem law03_LcodeOnce.f : ctx.fns 13 = some law03_LcodeOnce.c := rfl
set_option maxRecDepth 100000 in
theorem ref02_Nodes.k : compF Go.Proofs.Try.prog Go.Proofs.Try.f15 = some ref02_Nodes.c := by kernel_rfl
set_option maxRecDepth 100000 in
theorem law02_Made.k : compF Go.Proofs.Try.prog Go.Proofs.Try.f18 = some law02_Made.c := by kernel_rfl
set_option maxRecDepth 100000 in
theorem ref02_Same.k : compF Go.Proofs.Try.prog Go.Proofs.Try.f22 = some ref02_Same.c := by kernel_rfl
set_option maxRecDepth 100000 in
theorem law03_awake.k : compF Go.Proofs.Try.prog Go.Proofs.Try.f23 = some law03_awake.c := by kernel_rfl
set_option maxRecDepth 100000 in
theorem law03_get.k : compF Go.Proofs.Try.prog Go.Proofs.Try.f24 = some law03_get.c := by kernel_rfl
set_option maxRecDepth 100000 in
theorem lcode_Put.k : compF Go.Proofs.Try.prog Go.Proofs.Try.f25 = some lcode_Put.c := by kernel_rfl
theorem lcode_Put.f : ctx.fns 25 = some lcode_Put.c := rfl
set_option maxRecDepth 100000 in
theorem ref03_Put.k : compF Go.Proofs.Try.prog Go.Proofs.Try.f26 = some ref03_Put.c := by kernel_rfl
set_option maxRecDepth 100000 in
theorem law03_full.k : compF Go.Proofs.Try.prog Go.Proofs.Try.f27 = some law03_full.c := by kernel_rfl
set_option maxRecDepth 100000 in
theorem lcode_Get.k : compF Go.Proofs.Try.prog Go.Proofs.Try.f28 = some lcode_Get.c := by kernel_rfl
theorem lcode_Get.f : ctx.fns 28 = some lcode_Get.c := rfl
set_option maxRecDepth 100000 in
theorem law02_Maker_Level.k : compF Go.Proofs.Try.prog Go.Proofs.Try.f33 = some law02_Maker_Level.c := by kernel_rfl
set_option maxRecDepth 100000 in
theorem level_Right.k : compF Go.Proofs.Try.prog Go.Proofs.Try.f35 = some level_Right.c := by kernel_rfl
theorem level_Right.f : ctx.fns 35 = some level_Right.c := rfl
set_option maxRecDepth 100000 in
theorem ref03_Get.k : compF Go.Proofs.Try.prog Go.Proofs.Try.f41 = some ref03_Get.c := by kernel_rfl
set_option maxRecDepth 100000 in
theorem lcode_write.k : compF Go.Proofs.Try.prog Go.Proofs.Try.f42 = some lcode_write.c := by kernel_rfl
set_option maxRecDepth 100000 in
theorem strings_Builder_String.k : compF Go.Proofs.Try.prog Go.Proofs.Try.f43 = some strings_Builder_String.c := by kernel_rfl
set_option maxRecDepth 100000 in
theorem ref02_Right.k : compF Go.Proofs.Try.prog Go.Proofs.Try.f44 = some ref02_Right.c := by kernel_rfl
set_option maxRecDepth 100000 in
theorem ref03_text.k : compF Go.Proofs.Try.prog Go.Proofs.Try.f45 = some ref03_text.c := by kernel_rfl
set_option maxRecDepth 100000 in
theorem lcode_Get_1.k : compF Go.Proofs.Try.prog Go.Proofs.Try.f46 = some lcode_Get_1.c := by kernel_rfl
theorem lcode_Get_1.f : ctx.fns 46 = some lcode_Get_1.c := rfl
set_option maxRecDepth 100000 in
theorem lcode_reader_level.k : compF Go.Proofs.Try.prog Go.Proofs.Try.f47 = some lcode_reader_level.c := by kernel_rfl
theorem lcode_reader_level.f : ctx.fns 47 = some lcode_reader_level.c := rfl
set_option maxRecDepth 100000 in
theorem law02_Maker_Pick.k : compF Go.Proofs.Try.prog Go.Proofs.Try.f53 = some law02_Maker_Pick.c := by kernel_rfl
set_option maxRecDepth 100000 in
theorem level_nodes.k : compF Go.Proofs.Try.prog Go.Proofs.Try.f54 = some level_nodes.c := by kernel_rfl
theorem level_nodes.f : ctx.fns 54 = some level_nodes.c := rfl
set_option maxRecDepth 100000 in
theorem level_right.k : compF Go.Proofs.Try.prog Go.Proofs.Try.f55 = some level_right.c := by kernel_rfl
theorem level_right.f : ctx.fns 55 = some level_right.c := rfl
set_option maxRecDepth 100000 in
theorem ref03_reader_level.k : compF Go.Proofs.Try.prog Go.Proofs.Try.f57 = some ref03_reader_level.c := by kernel_rfl
set_option maxRecDepth 100000 in
theorem lcode_write_1.k : compF Go.Proofs.Try.prog Go.Proofs.Try.f58 = some lcode_write_1.c := by kernel_rfl
set_option maxRecDepth 100000 in
theorem octet_Put.k : compF Go.Proofs.Try.prog Go.Proofs.Try.f59 = some octet_Put.c := by kernel_rfl
theorem octet_Put.f : ctx.fns 59 = some octet_Put.c := rfl
set_option maxRecDepth 100000 in
theorem strings_Builder_WriteString.k : compF Go.Proofs.Try.prog Go.Proofs.Try.f60 = some strings_Builder_WriteString.c := by kernel_rfl
set_option maxRecDepth 100000 in
theorem lcode_named.k : compF Go.Proofs.Try.prog Go.Proofs.Try.f61 = some lcode_named.c := by kernel_rfl
theorem lcode_named.f : ctx.fns 61 = some lcode_named.c := rfl
set_option maxRecDepth 100000 in
theorem ref02_right.k : compF Go.Proofs.Try.prog Go.Proofs.Try.f62 = some ref02_right.c := by kernel_rfl
set_option maxRecDepth 100000 in
theorem ref01_Put.k : compF Go.Proofs.Try.prog Go.Proofs.Try.f63 = some ref01_Put.c := by kernel_rfl
set_option maxRecDepth 100000 in
theorem lcode_want.k : compF Go.Proofs.Try.prog Go.Proofs.Try.f64 = some lcode_want.c := by kernel_rfl
set_option maxRecDepth 100000 in
theorem lcode_reader_number.k : compF Go.Proofs.Try.prog Go.Proofs.Try.f65 = some lcode_reader_number.c := by kernel_rfl
set_option maxRecDepth 100000 in
theorem level_kinds.k : compF Go.Proofs.Try.prog Go.Proofs.Try.f67 = some level_kinds.c := by kernel_rfl
set_option maxRecDepth 100000 in
theorem level_right_1.k : compF Go.Proofs.Try.prog Go.Proofs.Try.f68 = some level_right_1.c := by kernel_rfl
theorem level_right_1.f : ctx.fns 68 = some level_right_1.c := rfl
set_option maxRecDepth 100000 in
theorem level_named.k : compF Go.Proofs.Try.prog Go.Proofs.Try.f69 = some level_named.c := by kernel_rfl
theorem level_named.f : ctx.fns 69 = some level_named.c := rfl
set_option maxRecDepth 100000 in
theorem slices_ContainsFunc_Level.k : compF Go.Proofs.Try.prog Go.Proofs.Try.f70 = some slices_ContainsFunc_Level.c := by kernel_rfl
theorem slices_ContainsFunc_Level.f : ctx.fns 70 = some slices_ContainsFunc_Level.c := rfl
set_option maxRecDepth 100000 in
theorem ref03_reader_number.k : compF Go.Proofs.Try.prog Go.Proofs.Try.f71 = some ref03_reader_number.c := by kernel_rfl
set_option maxRecDepth 100000 in
theorem octet_digits.k : compF Go.Proofs.Try.prog Go.Proofs.Try.f72 = some octet_digits.c := by kernel_rfl
theorem octet_digits.f : ctx.fns 72 = some octet_digits.c := rfl
set_option maxRecDepth 100000 in
theorem strings_Builder_copyCheck.k : compF Go.Proofs.Try.prog Go.Proofs.Try.f73 = some strings_Builder_copyCheck.c := by kernel_rfl
set_option maxRecDepth 100000 in
theorem ref02_kids.k : compF Go.Proofs.Try.prog Go.Proofs.Try.f74 = some ref02_kids.c := by kernel_rfl
set_option maxRecDepth 100000 in
theorem octet_Get.k : compF Go.Proofs.Try.prog Go.Proofs.Try.f75 = some octet_Get.c := by kernel_rfl
theorem octet_Get.f : ctx.fns 75 = some octet_Get.c := rfl
set_option maxRecDepth 100000 in
theorem level_kinds_1.k : compF Go.Proofs.Try.prog Go.Proofs.Try.f76 = some level_kinds_1.c := by kernel_rfl
set_option maxRecDepth 100000 in
theorem level_kinds_2.k : compF Go.Proofs.Try.prog Go.Proofs.Try.f77 = some level_kinds_2.c := by kernel_rfl
set_option maxRecDepth 100000 in
theorem level_kinds_3.k : compF Go.Proofs.Try.prog Go.Proofs.Try.f78 = some level_kinds_3.c := by kernel_rfl
set_option maxRecDepth 100000 in
theorem level_kinds_4.k : compF Go.Proofs.Try.prog Go.Proofs.Try.f79 = some level_kinds_4.c := by kernel_rfl
set_option maxRecDepth 100000 in
theorem level_imax.k : compF Go.Proofs.Try.prog Go.Proofs.Try.f80 = some level_imax.c := by kernel_rfl
set_option maxRecDepth 100000 in
theorem level_kinds_5.k : compF Go.Proofs.Try.prog Go.Proofs.Try.f81 = some level_kinds_5.c := by kernel_rfl
set_option maxRecDepth 100000 in
theorem level_kinds_6.k : compF Go.Proofs.Try.prog Go.Proofs.Try.f82 = some level_kinds_6.c := by kernel_rfl
set_option maxRecDepth 100000 in
theorem slices_IndexFunc_Level.k : compF Go.Proofs.Try.prog Go.Proofs.Try.f83 = some slices_IndexFunc_Level.c := by kernel_rfl
theorem slices_IndexFunc_Level.f : ctx.fns 83 = some slices_IndexFunc_Level.c := rfl
set_option maxRecDepth 100000 in
theorem ref01_Get.k : compF Go.Proofs.Try.prog Go.Proofs.Try.f84 = some ref01_Get.c := by kernel_rfl
set_option maxRecDepth 100000 in
theorem octet_digits_1.k : compF Go.Proofs.Try.prog Go.Proofs.Try.f85 = some octet_digits_1.c := by kernel_rfl
theorem octet_digits_1.f : ctx.fns 85 = some octet_digits_1.c := rfl
theorem lnko : Lnk Go.Proofs.Try.prog ctxo where
  fns := by
    intro f F h
    simp only [ctxo] at h
    split at h
    · cases h; exact ⟨_, Go.Proofs.Try.func8, law03_LcodeGet.k, by decide⟩
    · cases h; exact ⟨_, Go.Proofs.Try.func9, law03_LcodeSmall.k, by decide⟩
    · cases h; exact ⟨_, Go.Proofs.Try.func10, law03_LcodePut.k, by decide⟩
    · cases h; exact ⟨_, Go.Proofs.Try.func11, law03_LcodeDeep.k, by decide⟩
    · cases h; exact ⟨_, Go.Proofs.Try.func12, law03_LcodeBack.k, by decide⟩
    · cases h; exact ⟨_, Go.Proofs.Try.func13, law03_LcodeOnce.k, by decide⟩
    · cases h; exact ⟨_, Go.Proofs.Try.func15, ref02_Nodes.k, by decide⟩
    · cases h; exact ⟨_, Go.Proofs.Try.func18, law02_Made.k, by decide⟩
    · cases h; exact ⟨_, Go.Proofs.Try.func22, ref02_Same.k, by decide⟩
    · cases h; exact ⟨_, Go.Proofs.Try.func23, law03_awake.k, by decide⟩
    · cases h; exact ⟨_, Go.Proofs.Try.func24, law03_get.k, by decide⟩
    · cases h; exact ⟨_, Go.Proofs.Try.func25, lcode_Put.k, by decide⟩
    · cases h; exact ⟨_, Go.Proofs.Try.func26, ref03_Put.k, by decide⟩
    · cases h; exact ⟨_, Go.Proofs.Try.func27, law03_full.k, by decide⟩
    · cases h; exact ⟨_, Go.Proofs.Try.func28, lcode_Get.k, by decide⟩
    · cases h; exact ⟨_, Go.Proofs.Try.func33, law02_Maker_Level.k, by decide⟩
    · cases h; exact ⟨_, Go.Proofs.Try.func35, level_Right.k, by decide⟩
    · cases h; exact ⟨_, Go.Proofs.Try.func41, ref03_Get.k, by decide⟩
    · cases h; exact ⟨_, Go.Proofs.Try.func42, lcode_write.k, by decide⟩
    · cases h; exact ⟨_, Go.Proofs.Try.func43, strings_Builder_String.k, by decide⟩
    · cases h; exact ⟨_, Go.Proofs.Try.func44, ref02_Right.k, by decide⟩
    · cases h; exact ⟨_, Go.Proofs.Try.func45, ref03_text.k, by decide⟩
    · cases h; exact ⟨_, Go.Proofs.Try.func46, lcode_Get_1.k, by decide⟩
    · cases h; exact ⟨_, Go.Proofs.Try.func47, lcode_reader_level.k, by decide⟩
    · cases h; exact ⟨_, Go.Proofs.Try.func53, law02_Maker_Pick.k, by decide⟩
    · cases h; exact ⟨_, Go.Proofs.Try.func54, level_nodes.k, by decide⟩
    · cases h; exact ⟨_, Go.Proofs.Try.func55, level_right.k, by decide⟩
    · cases h; exact ⟨_, Go.Proofs.Try.func57, ref03_reader_level.k, by decide⟩
    · cases h; exact ⟨_, Go.Proofs.Try.func58, lcode_write_1.k, by decide⟩
    · cases h; exact ⟨_, Go.Proofs.Try.func59, octet_Put.k, by decide⟩
    · cases h; exact ⟨_, Go.Proofs.Try.func60, strings_Builder_WriteString.k, by decide⟩
    · cases h; exact ⟨_, Go.Proofs.Try.func61, lcode_named.k, by decide⟩
    · cases h; exact ⟨_, Go.Proofs.Try.func62, ref02_right.k, by decide⟩
    · cases h; exact ⟨_, Go.Proofs.Try.func63, ref01_Put.k, by decide⟩
    · cases h; exact ⟨_, Go.Proofs.Try.func64, lcode_want.k, by decide⟩
    · cases h; exact ⟨_, Go.Proofs.Try.func65, lcode_reader_number.k, by decide⟩
    · cases h; exact ⟨_, Go.Proofs.Try.func67, level_kinds.k, by decide⟩
    · cases h; exact ⟨_, Go.Proofs.Try.func68, level_right_1.k, by decide⟩
    · cases h; exact ⟨_, Go.Proofs.Try.func69, level_named.k, by decide⟩
    · cases h; exact ⟨_, Go.Proofs.Try.func70, slices_ContainsFunc_Level.k, by decide⟩
    · cases h; exact ⟨_, Go.Proofs.Try.func71, ref03_reader_number.k, by decide⟩
    · cases h; exact ⟨_, Go.Proofs.Try.func72, octet_digits.k, by decide⟩
    · cases h; exact ⟨_, Go.Proofs.Try.func73, strings_Builder_copyCheck.k, by decide⟩
    · cases h; exact ⟨_, Go.Proofs.Try.func74, ref02_kids.k, by decide⟩
    · cases h; exact ⟨_, Go.Proofs.Try.func75, octet_Get.k, by decide⟩
    · cases h; exact ⟨_, Go.Proofs.Try.func76, level_kinds_1.k, by decide⟩
    · cases h; exact ⟨_, Go.Proofs.Try.func77, level_kinds_2.k, by decide⟩
    · cases h; exact ⟨_, Go.Proofs.Try.func78, level_kinds_3.k, by decide⟩
    · cases h; exact ⟨_, Go.Proofs.Try.func79, level_kinds_4.k, by decide⟩
    · cases h; exact ⟨_, Go.Proofs.Try.func80, level_imax.k, by decide⟩
    · cases h; exact ⟨_, Go.Proofs.Try.func81, level_kinds_5.k, by decide⟩
    · cases h; exact ⟨_, Go.Proofs.Try.func82, level_kinds_6.k, by decide⟩
    · cases h; exact ⟨_, Go.Proofs.Try.func83, slices_IndexFunc_Level.k, by decide⟩
    · cases h; exact ⟨_, Go.Proofs.Try.func84, ref01_Get.k, by decide⟩
    · cases h; exact ⟨_, Go.Proofs.Try.func85, octet_digits_1.k, by decide⟩
    · cases h
  prim := by
    intro f h hh
    simp only [ctxo] at hh
    split at hh
    · cases hh; exact clone_link (t := 22) (et := 37) Go.Proofs.Try.func34 (by decide) ⟨_, _, _, _, _, _, _, _, _, _, _, _, _, rfl, ⟨rfl, rfl, rfl⟩, ⟨rfl, rfl, rfl⟩, ⟨rfl, rfl, rfl⟩, ⟨rfl, rfl, rfl⟩, ⟨rfl, rfl, rfl⟩, ⟨rfl, rfl, rfl⟩, ⟨rfl, rfl, rfl⟩, ⟨rfl, rfl, rfl⟩⟩ rfl rfl Go.Proofs.Try.underlying22 (by kernel_rfl) (by decide) (by kernel_rfl)
    · cases hh
  mixed := by kernel_rfl
set_option maxRecDepth 100000 in
theorem law03_awake.t : told (enter ctxo 3000 law03_awake.n [] (fun _ => none) 0 none) = some (.b true) := by kernel_rfl
theorem lnk : Lnk Go.Proofs.Try.prog ctx where
  fns := by
    intro f F h
    simp only [ctx] at h
    split at h
    · cases h; exact ⟨_, Go.Proofs.Try.func8, law03_LcodeGet.k, by decide⟩
    · cases h; exact ⟨_, Go.Proofs.Try.func9, law03_LcodeSmall.k, by decide⟩
    · cases h; exact ⟨_, Go.Proofs.Try.func10, law03_LcodePut.k, by decide⟩
    · cases h; exact ⟨_, Go.Proofs.Try.func11, law03_LcodeDeep.k, by decide⟩
    · cases h; exact ⟨_, Go.Proofs.Try.func12, law03_LcodeBack.k, by decide⟩
    · cases h; exact ⟨_, Go.Proofs.Try.func13, law03_LcodeOnce.k, by decide⟩
    · cases h; exact ⟨_, Go.Proofs.Try.func15, ref02_Nodes.k, by decide⟩
    · cases h; exact ⟨_, Go.Proofs.Try.func18, law02_Made.k, by decide⟩
    · cases h; exact ⟨_, Go.Proofs.Try.func22, ref02_Same.k, by decide⟩
    · cases h; exact ⟨_, Go.Proofs.Try.func24, law03_get.k, by decide⟩
    · cases h; exact ⟨_, Go.Proofs.Try.func25, lcode_Put.k, by decide⟩
    · cases h; exact ⟨_, Go.Proofs.Try.func26, ref03_Put.k, by decide⟩
    · cases h; exact ⟨_, Go.Proofs.Try.func27, law03_full.k, by decide⟩
    · cases h; exact ⟨_, Go.Proofs.Try.func28, lcode_Get.k, by decide⟩
    · cases h; exact ⟨_, Go.Proofs.Try.func33, law02_Maker_Level.k, by decide⟩
    · cases h; exact ⟨_, Go.Proofs.Try.func35, level_Right.k, by decide⟩
    · cases h; exact ⟨_, Go.Proofs.Try.func41, ref03_Get.k, by decide⟩
    · cases h; exact ⟨_, Go.Proofs.Try.func42, lcode_write.k, by decide⟩
    · cases h; exact ⟨_, Go.Proofs.Try.func43, strings_Builder_String.k, by decide⟩
    · cases h; exact ⟨_, Go.Proofs.Try.func44, ref02_Right.k, by decide⟩
    · cases h; exact ⟨_, Go.Proofs.Try.func45, ref03_text.k, by decide⟩
    · cases h; exact ⟨_, Go.Proofs.Try.func46, lcode_Get_1.k, by decide⟩
    · cases h; exact ⟨_, Go.Proofs.Try.func47, lcode_reader_level.k, by decide⟩
    · cases h; exact ⟨_, Go.Proofs.Try.func53, law02_Maker_Pick.k, by decide⟩
    · cases h; exact ⟨_, Go.Proofs.Try.func54, level_nodes.k, by decide⟩
    · cases h; exact ⟨_, Go.Proofs.Try.func55, level_right.k, by decide⟩
    · cases h; exact ⟨_, Go.Proofs.Try.func57, ref03_reader_level.k, by decide⟩
    · cases h; exact ⟨_, Go.Proofs.Try.func58, lcode_write_1.k, by decide⟩
    · cases h; exact ⟨_, Go.Proofs.Try.func59, octet_Put.k, by decide⟩
    · cases h; exact ⟨_, Go.Proofs.Try.func60, strings_Builder_WriteString.k, by decide⟩
    · cases h; exact ⟨_, Go.Proofs.Try.func61, lcode_named.k, by decide⟩
    · cases h; exact ⟨_, Go.Proofs.Try.func62, ref02_right.k, by decide⟩
    · cases h; exact ⟨_, Go.Proofs.Try.func63, ref01_Put.k, by decide⟩
    · cases h; exact ⟨_, Go.Proofs.Try.func64, lcode_want.k, by decide⟩
    · cases h; exact ⟨_, Go.Proofs.Try.func65, lcode_reader_number.k, by decide⟩
    · cases h; exact ⟨_, Go.Proofs.Try.func67, level_kinds.k, by decide⟩
    · cases h; exact ⟨_, Go.Proofs.Try.func68, level_right_1.k, by decide⟩
    · cases h; exact ⟨_, Go.Proofs.Try.func69, level_named.k, by decide⟩
    · cases h; exact ⟨_, Go.Proofs.Try.func70, slices_ContainsFunc_Level.k, by decide⟩
    · cases h; exact ⟨_, Go.Proofs.Try.func71, ref03_reader_number.k, by decide⟩
    · cases h; exact ⟨_, Go.Proofs.Try.func72, octet_digits.k, by decide⟩
    · cases h; exact ⟨_, Go.Proofs.Try.func73, strings_Builder_copyCheck.k, by decide⟩
    · cases h; exact ⟨_, Go.Proofs.Try.func74, ref02_kids.k, by decide⟩
    · cases h; exact ⟨_, Go.Proofs.Try.func75, octet_Get.k, by decide⟩
    · cases h; exact ⟨_, Go.Proofs.Try.func76, level_kinds_1.k, by decide⟩
    · cases h; exact ⟨_, Go.Proofs.Try.func77, level_kinds_2.k, by decide⟩
    · cases h; exact ⟨_, Go.Proofs.Try.func78, level_kinds_3.k, by decide⟩
    · cases h; exact ⟨_, Go.Proofs.Try.func79, level_kinds_4.k, by decide⟩
    · cases h; exact ⟨_, Go.Proofs.Try.func80, level_imax.k, by decide⟩
    · cases h; exact ⟨_, Go.Proofs.Try.func81, level_kinds_5.k, by decide⟩
    · cases h; exact ⟨_, Go.Proofs.Try.func82, level_kinds_6.k, by decide⟩
    · cases h; exact ⟨_, Go.Proofs.Try.func83, slices_IndexFunc_Level.k, by decide⟩
    · cases h; exact ⟨_, Go.Proofs.Try.func84, ref01_Get.k, by decide⟩
    · cases h; exact ⟨_, Go.Proofs.Try.func85, octet_digits_1.k, by decide⟩
    · cases h
  prim := by
    intro f h hh
    simp only [ctx] at hh
    split at hh
    · cases hh; exact clone_link (t := 22) (et := 37) Go.Proofs.Try.func34 (by decide) ⟨_, _, _, _, _, _, _, _, _, _, _, _, _, rfl, ⟨rfl, rfl, rfl⟩, ⟨rfl, rfl, rfl⟩, ⟨rfl, rfl, rfl⟩, ⟨rfl, rfl, rfl⟩, ⟨rfl, rfl, rfl⟩, ⟨rfl, rfl, rfl⟩, ⟨rfl, rfl, rfl⟩, ⟨rfl, rfl, rfl⟩⟩ rfl rfl Go.Proofs.Try.underlying22 (by kernel_rfl) (by decide) (by kernel_rfl)
    · cases hh; exact prim_told lnko law03_awake.t rfl
    · cases hh
  mixed := by kernel_rfl
end Pi


/- The functions of the seat YtglabbjideniaaaGreat as code of PI (printed by gen2.py), and that they are what the program has. -/
import Derived.Test.YtglabbjideniaaaGreatEnc
import Derived.Test.YtglabbjideniaaaGreatProg
import Derived.Test.YtglabbjideniaaaGreatFw3
import Derived.Test.YtglabbjideniaaaGreatFw4
set_option linter.unusedVariables false
namespace Pi
variable {u y z : List V} {m : Sto} {x : Nat}

abbrev top_TopLevels.n : Nat := 4
abbrev top_alive.n : Nat := 6
abbrev law02_Maker_Level.n : Nat := 12
abbrev law12_Cons.n : Nat := 13
abbrev under_Leq.n : Nat := 14
abbrev level_Eval.n : Nat := 15
abbrev top_holds.n : Nat := 16
abbrev solve_Solve.n : Nat := 22
abbrev law02_Maker_Pick.n : Nat := 38
abbrev under_Right.n : Nat := 39
abbrev level_Right.n : Nat := 40
abbrev under_first.n : Nat := 41
abbrev under_Leq_1.n : Nat := 42
abbrev under_situation_atoms.n : Nat := 43
abbrev under_situation_values.n : Nat := 44
abbrev level_Eval_1.n : Nat := 45
abbrev slices_ContainsFunc_int.n : Nat := 46
abbrev level_value.n : Nat := 47
abbrev horn_Right.n : Nat := 58
abbrev solve_run.n : Nat := 59
abbrev solve_limit.n : Nat := 60
abbrev leq_All.n : Nat := 61
abbrev flat_Flatten.n : Nat := 62
abbrev slices_EqualFunc_Level.n : Nat := 65
abbrev level_Same.n : Nat := 66
abbrev slices_IndexFunc_Decl.n : Nat := 69
abbrev slices_ContainsFunc_Con.n : Nat := 73
abbrev under_Right_1.n : Nat := 90
abbrev level_nodes.n : Nat := 91
abbrev level_right.n : Nat := 92
abbrev slices_Collect_Clause.n : Nat := 93
abbrev under_situation_clauses.n : Nat := 94
abbrev slices_IndexFunc_int.n : Nat := 95
abbrev level_kinds.n : Nat := 96
abbrev horn_Right_1.n : Nat := 107
abbrev slices_ContainsFunc_Clause.n : Nat := 108
abbrev horn_atoms.n : Nat := 109
abbrev solve_of.n : Nat := 110
abbrev solve_model_rounds.n : Nat := 111
abbrev slices_Max_int.n : Nat := 112
abbrev slices_Clone_int.n : Nat := 113
abbrev horn_Most.n : Nat := 114
abbrev leq_All_1.n : Nat := 115
abbrev flat_of.n : Nat := 116
abbrev flat_Top.n : Nat := 117
abbrev flat_Right.n : Nat := 118
abbrev slices_IndexFunc_Con.n : Nat := 121
abbrev level_right_1.n : Nat := 145
abbrev level_named.n : Nat := 146
abbrev slices_ContainsFunc_Level.n : Nat := 147
abbrev slices_AppendSeq_Clause.n : Nat := 148
abbrev under_situation_clauses_1.n : Nat := 149
abbrev level_kinds_1.n : Nat := 150
abbrev level_kinds_2.n : Nat := 151
abbrev level_kinds_3.n : Nat := 152
abbrev level_kinds_4.n : Nat := 153
abbrev level_imax.n : Nat := 154
abbrev level_kinds_5.n : Nat := 155
abbrev level_kinds_6.n : Nat := 156
abbrev under_Possible_1.n : Nat := 163
abbrev slices_Grow_Con.n : Nat := 176
abbrev slices_IndexFunc_Clause.n : Nat := 180
abbrev horn_atoms_1.n : Nat := 181
abbrev slices_Concat_Atom.n : Nat := 182
abbrev solve_model_rounds_1.n : Nat := 183
abbrev solve_model_round.n : Nat := 184
abbrev flat_plain.n : Nat := 185
abbrev flat_succ.n : Nat := 186
abbrev flat_join.n : Nat := 187
abbrev flat_Right_1.n : Nat := 188
abbrev slices_IndexFunc_Level.n : Nat := 227
abbrev math_bits_Mul.n : Nat := 243
abbrev slices_Grow_Level.n : Nat := 247
abbrev slices_Grow_Atom.n : Nat := 249
abbrev horn_Asks.n : Nat := 250
abbrev slices_Repeat_int.n : Nat := 251
abbrev math_bits_Mul32.n : Nat := 289
abbrev math_bits_Mul64.n : Nat := 290
abbrev slices_IndexFunc_Atom.n : Nat := 291
abbrev horn_Asks_1.n : Nat := 295
abbrev slices_MinFunc_Atom.n : Nat := 296
abbrev slices_Index_int.n : Nat := 320
abbrev slices_Backward_Term_1.n : Nat := 350
def top_TopLevels.b1 : PCode := (.seq (.seq (.reg [.seq [⟨some 76,.mv (.t 15),none⟩,⟨some 77,.bi .lss (.t 76) (.c (.i .i64 125)),none⟩]]) (.cond (.t 77) .skip (.exit 0))) (.seq (.block 1 (.seq (.reg [.seq [⟨some 80,.mv (.t 15),none⟩,⟨some 81,.bi .rem (.t 80) (.c (.i .i64 5)),none⟩,⟨some 82,.mv (.t 15),none⟩,⟨some 83,.bi .quo (.t 82) (.c (.i .i64 5)),none⟩,⟨some 84,.bi .rem (.t 83) (.c (.i .i64 5)),none⟩,⟨some 85,.mv (.t 15),none⟩,⟨some 86,.bi .quo (.t 85) (.c (.i .i64 25)),none⟩,⟨some 87,.bs 1 3 [.i .i64 0] [(0,1,.t 81),(1,1,.t 84),(2,1,.t 86)],none⟩,⟨some 16,.mv (.t 87),none⟩]]) (.seq (.reg [.seq [⟨some 89,.ld true 3 (.t 5),none⟩,⟨some 90,.mv (.t 16),none⟩,⟨some 91,.ca (.c (.fn (.func level_Eval.n) [] [])) [.t 89,.t 90,.c .ns],none⟩,⟨some 88,.mv (.t 91),none⟩,⟨some 92,.ex (.t 88) 0,none⟩,⟨some 93,.ex (.t 88) 1,none⟩,⟨some 17,.mv (.t 92),none⟩,⟨some 18,.mv (.t 93),none⟩]]) (.seq (.reg [.seq [⟨some 95,.ld true 3 (.t 6),none⟩,⟨some 96,.mv (.t 16),none⟩,⟨some 97,.ca (.c (.fn (.func level_Eval.n) [] [])) [.t 95,.t 96,.c .ns],none⟩,⟨some 94,.mv (.t 97),none⟩,⟨some 98,.ex (.t 94) 0,none⟩,⟨some 99,.ex (.t 94) 1,none⟩,⟨some 19,.mv (.t 98),none⟩,⟨some 20,.mv (.t 99),none⟩]]) (.seq (.reg [.seq [⟨some 100,.mv (.t 17),none⟩,⟨some 101,.mv (.t 19),none⟩,⟨some 102,.bi .gtr (.t 100) (.t 101),none⟩,⟨some 103,.mv (.t 102),none⟩,⟨some 104,.mv (.t 7),some (103,true)⟩,⟨some 105,.mv (.t 16),some (103,true)⟩,⟨some 106,.ca (.c (.fn (.func top_holds.n) [] [])) [.t 104,.t 105],some (103,true)⟩,⟨some 107,.pk (.t 103) (.t 106) (.c (.b false)),none⟩]]) (.cond (.t 107) (.seq (.reg [.seq [⟨some 2,.mv (.c (.b false)),none⟩]]) .ret) .skip)))))) (.reg [.seq [⟨some 78,.mv (.t 15),none⟩,⟨some 79,.bi .add (.t 78) (.c (.i .i64 1)),none⟩,⟨some 15,.mv (.t 79),none⟩]])))
def top_TopLevels.c : PFun := ⟨(.seq (.reg [.seq [⟨some 2,.mv (.c (.b false)),none⟩]]) (.seq (.reg [.seq [⟨some 21,.ca (.c (.fn (.func top_alive.n) [] [])) [],none⟩,⟨some 3,.mv (.t 21),none⟩]]) (.seq (.seq (.reg [.seq [⟨some 22,.mv (.t 3),none⟩,⟨some 23,.un .not (.t 22),none⟩]]) (.cond (.t 23) (.seq (.reg [.seq [⟨some 2,.mv (.c (.b false)),none⟩]]) .ret) .skip)) (.seq (.reg [.seq [⟨some 24,.mv (.t 0),none⟩,⟨some 25,.bd [.ns,.i .i64 0] [(0,1,.t 24)],none⟩,⟨some 26,.bx (.t 25),none⟩,⟨some 4,.mv (.t 26),none⟩]]) (.seq (.reg [.seq [⟨some 27,.mv (.t 4),none⟩,⟨some 28,.ca (.c (.fn (.func law02_Maker_Level.n) [] [])) [.t 27,.c (.i .i64 3),.c (.i .i64 0),.c (.i .i64 3)],none⟩,⟨some 29,.mv (.t 4),none⟩,⟨some 30,.ca (.c (.fn (.func law02_Maker_Level.n) [] [])) [.t 29,.c (.i .i64 3),.c (.i .i64 0),.c (.i .i64 3)],none⟩,⟨some 5,.al [.i .i64 0,.i .i64 0,.ns],none⟩,⟨some 6,.al [.i .i64 0,.i .i64 0,.ns],none⟩,⟨none,.st 3 (.t 5) (.t 28),none⟩,⟨none,.st 3 (.t 6) (.t 30),none⟩]]) (.seq (.reg [.seq [⟨some 31,.mv (.t 4),none⟩,⟨some 32,.ca (.c (.fn (.func law12_Cons.n) [] [])) [.t 31,.c (.i .i64 3),.c (.i .i64 4)],none⟩,⟨some 7,.mv (.t 32),none⟩]]) (.seq (.reg [.seq [⟨some 34,.mv (.t 7),none⟩,⟨some 35,.ld true 3 (.t 5),none⟩,⟨some 36,.ld true 3 (.t 6),none⟩,⟨some 37,.ca (.c (.fn (.func under_Leq.n) [] [])) [.t 34,.c (.i .i64 3),.t 35,.t 36],none⟩,⟨some 33,.mv (.t 37),none⟩,⟨some 38,.ex (.t 33) 0,none⟩,⟨some 39,.ex (.t 33) 1,none⟩,⟨some 40,.ex (.t 33) 2,none⟩,⟨some 8,.mv (.t 38),none⟩,⟨some 9,.mv (.t 39),none⟩,⟨some 10,.mv (.t 40),none⟩]]) (.seq (.seq (.reg [.seq [⟨some 41,.mv (.t 10),none⟩,⟨some 42,.bi .neq (.t 41) (.c (.i .i64 0)),none⟩]]) (.cond (.t 42) (.seq (.reg [.seq [⟨some 2,.mv (.c (.b false)),none⟩]]) .ret) .skip)) (.seq (.seq (.reg [.seq [⟨some 43,.mv (.t 8),none⟩,⟨some 44,.un .not (.t 43),none⟩]]) (.cond (.t 44) (.seq (.reg [.seq [⟨some 46,.ld true 3 (.t 5),none⟩,⟨some 47,.mv (.t 9),none⟩,⟨some 48,.ca (.c (.fn (.func level_Eval.n) [] [])) [.t 46,.t 47,.c .ns],none⟩,⟨some 45,.mv (.t 48),none⟩,⟨some 49,.ex (.t 45) 0,none⟩,⟨some 50,.ex (.t 45) 1,none⟩,⟨some 11,.mv (.t 49),none⟩,⟨some 12,.mv (.t 50),none⟩]]) (.seq (.reg [.seq [⟨some 52,.ld true 3 (.t 6),none⟩,⟨some 53,.mv (.t 9),none⟩,⟨some 54,.ca (.c (.fn (.func level_Eval.n) [] [])) [.t 52,.t 53,.c .ns],none⟩,⟨some 51,.mv (.t 54),none⟩,⟨some 55,.ex (.t 51) 0,none⟩,⟨some 56,.ex (.t 51) 1,none⟩,⟨some 13,.mv (.t 55),none⟩,⟨some 14,.mv (.t 56),none⟩]]) (.seq (.reg [.seq [⟨some 57,.mv (.t 3),none⟩,⟨some 58,.mv (.t 57),none⟩,⟨some 59,.mv (.t 12),some (58,true)⟩,⟨some 60,.bi .eql (.t 59) (.c (.i .i64 0)),some (58,true)⟩,⟨some 61,.pk (.t 58) (.t 60) (.c (.b false)),none⟩,⟨some 62,.mv (.t 61),none⟩,⟨some 63,.mv (.t 14),some (62,true)⟩,⟨some 64,.bi .eql (.t 63) (.c (.i .i64 0)),some (62,true)⟩,⟨some 65,.pk (.t 62) (.t 64) (.c (.b false)),none⟩,⟨some 66,.mv (.t 65),none⟩,⟨some 67,.mv (.t 11),some (66,true)⟩,⟨some 68,.mv (.t 13),some (66,true)⟩,⟨some 69,.bi .gtr (.t 67) (.t 68),some (66,true)⟩,⟨some 70,.pk (.t 66) (.t 69) (.c (.b false)),none⟩,⟨some 71,.mv (.t 70),none⟩,⟨some 72,.mv (.t 7),some (71,true)⟩,⟨some 73,.mv (.t 9),some (71,true)⟩,⟨some 74,.ca (.c (.fn (.func top_holds.n) [] [])) [.t 72,.t 73],some (71,true)⟩,⟨some 75,.pk (.t 71) (.t 74) (.c (.b false)),none⟩,⟨some 2,.mv (.t 75),none⟩]]) .ret))) .skip)) (.seq (.seq (.reg [.seq [⟨some 15,.mv (.c (.i .i64 0)),none⟩]]) (.block 0 (.loop top_TopLevels.b1))) (.seq (.reg [.seq [⟨some 108,.mv (.t 3),none⟩,⟨some 2,.mv (.t 108),none⟩]]) .ret))))))))))), [.t 2]⟩
def law02_Maker_Level.c : PFun := ⟨(.seq (.reg [.seq [⟨some 8,.al [.i .i64 0,.i .i64 0,.ns],none⟩]]) (.seq (.reg [.seq [⟨some 10,.mv (.t 0),none⟩,⟨some 11,.ca (.c (.fn (.func law02_Maker_Pick.n) [] [])) [.t 10,.c (.i .i64 10)],none⟩,⟨some 9,.mv (.t 11),none⟩]]) (.seq (.seq (.reg [.seq [⟨some 12,.mv (.t 3),none⟩,⟨some 13,.bi .lss (.t 12) (.c (.i .i64 2)),none⟩]]) (.cond (.t 13) (.reg [.seq [⟨some 14,.mv (.t 9),none⟩,⟨some 15,.bi .rem (.t 14) (.c (.i .i64 4)),none⟩,⟨some 9,.mv (.t 15),none⟩]]) .skip)) (.seq (.block 0 (.seq (.reg [.seq [⟨some 17,.mv (.t 9),none⟩,⟨some 18,.bi .eql (.t 17) (.c (.i .i64 1)),none⟩,⟨some 19,.mv (.t 18),none⟩,⟨some 20,.mv (.t 1),some (19,true)⟩,⟨some 21,.bi .gtr (.t 20) (.c (.i .i64 0)),some (19,true)⟩,⟨some 22,.pk (.t 19) (.t 21) (.c (.b false)),none⟩,⟨some 23,.mv (.t 22),none⟩,⟨some 24,.mv (.t 9),some (23,false)⟩,⟨some 25,.bi .eql (.t 24) (.c (.i .i64 2)),some (23,false)⟩,⟨some 26,.mv (.t 25),some (23,false)⟩,⟨some 27,.mv (.t 1),some (26,true)⟩,⟨some 28,.bi .gtr (.t 27) (.c (.i .i64 0)),some (26,true)⟩,⟨some 29,.pk (.t 26) (.t 28) (.c (.b false)),some (23,false)⟩,⟨some 30,.mv (.t 29),some (23,false)⟩,⟨some 31,.mv (.t 2),some (30,true)⟩,⟨some 32,.bi .eql (.t 31) (.c (.i .i64 0)),some (30,true)⟩,⟨some 33,.pk (.t 30) (.t 32) (.c (.b false)),some (23,false)⟩,⟨some 34,.pk (.t 23) (.c (.b true)) (.t 33),none⟩,⟨some 16,.mv (.t 34),none⟩]]) (.cond (.t 16) (.seq (.reg [.seq [⟨some 35,.mv (.t 0),none⟩,⟨some 36,.mv (.t 1),none⟩,⟨some 37,.ca (.c (.fn (.func law02_Maker_Pick.n) [] [])) [.t 35,.t 36],none⟩,⟨some 38,.bd [.i .i64 0,.i .i64 0,.ns] [(0,1,.c (.i .i64 5)),(1,1,.t 37)],none⟩,⟨none,.st 3 (.t 8) (.t 38),none⟩]]) .ret) (.seq (.reg [.seq [⟨some 40,.mv (.t 9),none⟩,⟨some 41,.bi .eql (.t 40) (.c (.i .i64 2)),none⟩,⟨some 42,.mv (.t 41),none⟩,⟨some 43,.mv (.t 9),some (42,false)⟩,⟨some 44,.bi .eql (.t 43) (.c (.i .i64 3)),some (42,false)⟩,⟨some 45,.pk (.t 42) (.c (.b true)) (.t 44),none⟩,⟨some 46,.mv (.t 45),none⟩,⟨some 47,.mv (.t 2),some (46,true)⟩,⟨some 48,.bi .gtr (.t 47) (.c (.i .i64 0)),some (46,true)⟩,⟨some 49,.pk (.t 46) (.t 48) (.c (.b false)),none⟩,⟨some 39,.mv (.t 49),none⟩]]) (.cond (.t 39) (.seq (.reg [.seq [⟨some 50,.mv (.t 0),none⟩,⟨some 51,.mv (.t 2),none⟩,⟨some 52,.ca (.c (.fn (.func law02_Maker_Pick.n) [] [])) [.t 50,.t 51],none⟩,⟨some 53,.bd [.i .i64 0,.i .i64 0,.ns] [(0,1,.c (.i .i64 6)),(1,1,.t 52)],none⟩,⟨none,.st 3 (.t 8) (.t 53),none⟩]]) .ret) (.seq (.reg [.seq [⟨some 55,.mv (.t 9),none⟩,⟨some 56,.bi .lss (.t 55) (.c (.i .i64 4)),none⟩,⟨some 54,.mv (.t 56),none⟩]]) (.cond (.t 54) (.seq (.reg [.seq [⟨some 57,.bd [.i .i64 0,.i .i64 0,.ns] [(0,1,.c (.i .i64 1))],none⟩,⟨none,.st 3 (.t 8) (.t 57),none⟩]]) .ret) (.seq (.reg [.seq [⟨some 59,.mv (.t 9),none⟩,⟨some 60,.bi .lss (.t 59) (.c (.i .i64 6)),none⟩,⟨some 58,.mv (.t 60),none⟩]]) (.cond (.t 58) (.seq (.reg [.seq [⟨some 61,.mv (.t 0),none⟩,⟨some 62,.mv (.t 1),none⟩,⟨some 63,.mv (.t 2),none⟩,⟨some 64,.mv (.t 3),none⟩,⟨some 65,.bi .sub (.t 64) (.c (.i .i64 1)),none⟩,⟨some 66,.ca (.c (.fn (.func law02_Maker_Level.n) [] [])) [.t 61,.t 62,.t 63,.t 65],none⟩,⟨some 67,.bs 3 1 [.i .i64 0,.i .i64 0,.ns] [(0,3,.t 66)],none⟩,⟨some 68,.bd [.i .i64 0,.i .i64 0,.ns] [(0,1,.c (.i .i64 2)),(2,1,.t 67)],none⟩,⟨none,.st 3 (.t 8) (.t 68),none⟩]]) .ret) (.seq (.reg [.seq [⟨some 70,.mv (.t 9),none⟩,⟨some 71,.bi .lss (.t 70) (.c (.i .i64 8)),none⟩,⟨some 69,.mv (.t 71),none⟩]]) (.cond (.t 69) (.seq (.reg [.seq [⟨some 72,.mv (.t 0),none⟩,⟨some 73,.mv (.t 1),none⟩,⟨some 74,.mv (.t 2),none⟩,⟨some 75,.mv (.t 3),none⟩,⟨some 76,.bi .sub (.t 75) (.c (.i .i64 1)),none⟩,⟨some 77,.ca (.c (.fn (.func law02_Maker_Level.n) [] [])) [.t 72,.t 73,.t 74,.t 76],none⟩,⟨some 78,.mv (.t 0),none⟩,⟨some 79,.mv (.t 1),none⟩,⟨some 80,.mv (.t 2),none⟩,⟨some 81,.mv (.t 3),none⟩,⟨some 82,.bi .sub (.t 81) (.c (.i .i64 1)),none⟩,⟨some 83,.ca (.c (.fn (.func law02_Maker_Level.n) [] [])) [.t 78,.t 79,.t 80,.t 82],none⟩,⟨some 84,.bs 3 2 [.i .i64 0,.i .i64 0,.ns] [(0,3,.t 77),(3,3,.t 83)],none⟩,⟨some 85,.bd [.i .i64 0,.i .i64 0,.ns] [(0,1,.c (.i .i64 3)),(2,1,.t 84)],none⟩,⟨none,.st 3 (.t 8) (.t 85),none⟩]]) .ret) .skip))))))))))) (.seq (.reg [.seq [⟨some 86,.mv (.t 0),none⟩,⟨some 87,.mv (.t 1),none⟩,⟨some 88,.mv (.t 2),none⟩,⟨some 89,.mv (.t 3),none⟩,⟨some 90,.bi .sub (.t 89) (.c (.i .i64 1)),none⟩,⟨some 91,.ca (.c (.fn (.func law02_Maker_Level.n) [] [])) [.t 86,.t 87,.t 88,.t 90],none⟩,⟨some 92,.mv (.t 0),none⟩,⟨some 93,.mv (.t 1),none⟩,⟨some 94,.mv (.t 2),none⟩,⟨some 95,.mv (.t 3),none⟩,⟨some 96,.bi .sub (.t 95) (.c (.i .i64 1)),none⟩,⟨some 97,.ca (.c (.fn (.func law02_Maker_Level.n) [] [])) [.t 92,.t 93,.t 94,.t 96],none⟩,⟨some 98,.bs 3 2 [.i .i64 0,.i .i64 0,.ns] [(0,3,.t 91),(3,3,.t 97)],none⟩,⟨some 99,.bd [.i .i64 0,.i .i64 0,.ns] [(0,1,.c (.i .i64 4)),(2,1,.t 98)],none⟩,⟨none,.st 3 (.t 8) (.t 99),none⟩]]) .ret))))), [.c 8 true 3]⟩
def law12_Cons.b1 : PCode := (.seq (.seq (.reg [.seq [⟨some 13,.mv (.t 8),none⟩,⟨some 14,.bi .gtr (.t 13) (.c (.i .i64 0)),none⟩]]) (.cond (.t 14) .skip (.exit 0))) (.seq (.block 1 (.reg [.seq [⟨some 17,.mv (.t 7),none⟩,⟨some 18,.mv (.t 0),none⟩,⟨some 19,.mv (.t 1),none⟩,⟨some 20,.ca (.c (.fn (.func law02_Maker_Level.n) [] [])) [.t 18,.t 19,.c (.i .i64 0),.c (.i .i64 3)],none⟩,⟨some 21,.mv (.t 0),none⟩,⟨some 22,.mv (.t 1),none⟩,⟨some 23,.ca (.c (.fn (.func law02_Maker_Level.n) [] [])) [.t 21,.t 22,.c (.i .i64 0),.c (.i .i64 3)],none⟩,⟨some 24,.bd [.i .i64 0,.i .i64 0,.ns,.i .i64 0,.i .i64 0,.ns] [(0,3,.t 20),(3,3,.t 23)],none⟩,⟨some 25,.bs 6 1 [.i .i64 0,.i .i64 0,.ns,.i .i64 0,.i .i64 0,.ns] [(0,6,.t 24)],none⟩,⟨some 26,.ap 6 (.t 17) (.t 25),none⟩,⟨some 7,.mv (.t 26),none⟩]])) (.reg [.seq [⟨some 15,.mv (.t 8),none⟩,⟨some 16,.bi .sub (.t 15) (.c (.i .i64 1)),none⟩,⟨some 8,.mv (.t 16),none⟩]])))
def law12_Cons.c : PFun := ⟨(.seq (.reg [.seq [⟨some 6,.mv (.c .ns),none⟩]]) (.seq (.reg [.seq [⟨some 7,.mv (.c .ns),none⟩]]) (.seq (.seq (.reg [.seq [⟨some 9,.mv (.t 0),none⟩,⟨some 10,.mv (.t 2),none⟩,⟨some 11,.bi .add (.t 10) (.c (.i .i64 1)),none⟩,⟨some 12,.ca (.c (.fn (.func law02_Maker_Pick.n) [] [])) [.t 9,.t 11],none⟩,⟨some 8,.mv (.t 12),none⟩]]) (.block 0 (.loop law12_Cons.b1))) (.seq (.reg [.seq [⟨some 27,.mv (.t 7),none⟩,⟨some 6,.mv (.t 27),none⟩]]) .ret)))), [.t 6]⟩
def under_Leq.c : PFun := ⟨(.seq (.reg [.seq [⟨some 6,.bx (.t 2),none⟩,⟨some 7,.bx (.t 3),none⟩,⟨some 8,.mv (.c (.b false)),none⟩,⟨some 9,.mv (.c .ns),none⟩,⟨some 10,.mv (.c (.i .i64 0)),none⟩]]) (.seq (.seq (.reg [.seq [⟨some 13,.mv (.t 0),none⟩,⟨some 14,.mv (.t 1),none⟩,⟨some 15,.ca (.c (.fn (.func under_Right.n) [] [])) [.t 13,.t 14],none⟩,⟨some 16,.un .not (.t 15),none⟩,⟨some 17,.mv (.t 16),none⟩,⟨some 18,.ld true 3 (.t 6),some (17,false)⟩,⟨some 19,.mv (.t 1),some (17,false)⟩,⟨some 20,.ca (.c (.fn (.func level_Right.n) [] [])) [.t 18,.t 19,.c (.i .i64 0)],some (17,false)⟩,⟨some 21,.un .not (.t 20),some (17,false)⟩,⟨some 22,.pk (.t 17) (.c (.b true)) (.t 21),none⟩,⟨some 23,.mv (.t 22),none⟩,⟨some 24,.ld true 3 (.t 7),some (23,false)⟩,⟨some 25,.mv (.t 1),some (23,false)⟩,⟨some 26,.ca (.c (.fn (.func level_Right.n) [] [])) [.t 24,.t 25,.c (.i .i64 0)],some (23,false)⟩,⟨some 27,.un .not (.t 26),some (23,false)⟩,⟨some 28,.pk (.t 23) (.c (.b true)) (.t 27),none⟩]]) (.cond (.t 28) (.seq (.reg [.seq [⟨some 8,.mv (.c (.b false)),none⟩,⟨some 9,.mv (.c .ns),none⟩,⟨some 10,.mv (.c (.i .i64 1)),none⟩]]) .ret) .skip)) (.seq (.reg [.seq [⟨some 30,.mv (.t 0),none⟩,⟨some 31,.mv (.t 1),none⟩,⟨some 32,.mf (.func under_Leq_1.n) [] [.t 6,.t 7],none⟩,⟨some 33,.ca (.c (.fn (.func under_first.n) [] [])) [.t 30,.t 31,.t 32],none⟩,⟨some 29,.mv (.t 33),none⟩,⟨some 34,.ex (.t 29) 0,none⟩,⟨some 35,.ex (.t 29) 1,none⟩,⟨some 11,.mv (.t 34),none⟩,⟨some 12,.mv (.t 35),none⟩]]) (.seq (.reg [.seq [⟨some 36,.mv (.t 12),none⟩,⟨some 37,.un .not (.t 36),none⟩,⟨some 38,.mv (.t 11),none⟩,⟨some 8,.mv (.t 37),none⟩,⟨some 9,.mv (.t 38),none⟩,⟨some 10,.mv (.c (.i .i64 0)),none⟩]]) .ret)))), [.t 8,.t 9,.t 10]⟩
def level_Eval.c : PFun := ⟨(.seq (.reg [.seq [⟨some 3,.bx (.t 0),none⟩,⟨some 6,.mv (.c (.i .i64 0)),none⟩,⟨some 7,.mv (.c (.i .i64 0)),none⟩]]) (.seq (.reg [.seq [⟨some 8,.mv (.c (.fn (.func level_Eval_1.n) [] [])),none⟩]]) (.seq (.seq (.reg [.seq [⟨some 9,.ld true 3 (.t 3),none⟩,⟨some 10,.mv (.t 1),none⟩,⟨some 11,.ln .l (.t 10),none⟩,⟨some 12,.mv (.t 2),none⟩,⟨some 13,.ln .l (.t 12),none⟩,⟨some 14,.ca (.c (.fn (.func level_Right.n) [] [])) [.t 9,.t 11,.t 13],none⟩,⟨some 15,.un .not (.t 14),none⟩,⟨some 16,.mv (.t 15),none⟩,⟨some 17,.mv (.t 1),some (16,false)⟩,⟨some 18,.mv (.t 8),some (16,false)⟩,⟨some 19,.ca (.c (.fn (.func slices_ContainsFunc_int.n) [] [])) [.t 17,.t 18],some (16,false)⟩,⟨some 20,.pk (.t 16) (.c (.b true)) (.t 19),none⟩,⟨some 21,.mv (.t 20),none⟩,⟨some 22,.mv (.t 2),some (21,false)⟩,⟨some 23,.mv (.t 8),some (21,false)⟩,⟨some 24,.ca (.c (.fn (.func slices_ContainsFunc_int.n) [] [])) [.t 22,.t 23],some (21,false)⟩,⟨some 25,.pk (.t 21) (.c (.b true)) (.t 24),none⟩]]) (.cond (.t 25) (.seq (.reg [.seq [⟨some 6,.mv (.c (.i .i64 0)),none⟩,⟨some 7,.mv (.c (.i .i64 1)),none⟩]]) .ret) .skip)) (.seq (.reg [.seq [⟨some 26,.ld true 3 (.t 3),none⟩,⟨some 27,.mv (.t 1),none⟩,⟨some 28,.mv (.t 2),none⟩,⟨some 29,.bd [.ns,.ns] [(0,1,.t 27),(1,1,.t 28)],none⟩,⟨some 30,.ca (.c (.fn (.func level_value.n) [] [])) [.t 26,.t 29],none⟩,⟨some 6,.mv (.t 30),none⟩,⟨some 7,.mv (.c (.i .i64 0)),none⟩]]) .ret)))), [.t 6,.t 7]⟩
def top_holds.b1 : PCode := (.seq (.seq (.reg [.seq [⟨some 10,.mv (.t 5),none⟩,⟨some 11,.mv (.t 0),none⟩,⟨some 12,.ln .l (.t 11),none⟩,⟨some 13,.bi .lss (.t 10) (.t 12),none⟩]]) (.cond (.t 13) .skip (.exit 0))) (.seq (.block 1 (.seq (.reg [.seq [⟨some 17,.mv (.t 0),none⟩,⟨some 18,.mv (.t 5),none⟩,⟨some 19,.ia 6 (.t 17) (.t 18),none⟩,⟨some 20,.fa 0 (.t 19),none⟩,⟨some 21,.ld true 3 (.t 20),none⟩,⟨some 22,.mv (.t 1),none⟩,⟨some 23,.ca (.c (.fn (.func level_Eval.n) [] [])) [.t 21,.t 22,.c .ns],none⟩,⟨some 16,.mv (.t 23),none⟩,⟨some 24,.ex (.t 16) 0,none⟩,⟨some 25,.ex (.t 16) 1,none⟩,⟨some 6,.mv (.t 24),none⟩,⟨some 7,.mv (.t 25),none⟩]]) (.seq (.reg [.seq [⟨some 27,.mv (.t 0),none⟩,⟨some 28,.mv (.t 5),none⟩,⟨some 29,.ia 6 (.t 27) (.t 28),none⟩,⟨some 30,.fa 3 (.t 29),none⟩,⟨some 31,.ld true 3 (.t 30),none⟩,⟨some 32,.mv (.t 1),none⟩,⟨some 33,.ca (.c (.fn (.func level_Eval.n) [] [])) [.t 31,.t 32,.c .ns],none⟩,⟨some 26,.mv (.t 33),none⟩,⟨some 34,.ex (.t 26) 0,none⟩,⟨some 35,.ex (.t 26) 1,none⟩,⟨some 8,.mv (.t 34),none⟩,⟨some 9,.mv (.t 35),none⟩]]) (.seq (.reg [.seq [⟨some 36,.mv (.t 7),none⟩,⟨some 37,.bi .neq (.t 36) (.c (.i .i64 0)),none⟩,⟨some 38,.mv (.t 37),none⟩,⟨some 39,.mv (.t 9),some (38,false)⟩,⟨some 40,.bi .neq (.t 39) (.c (.i .i64 0)),some (38,false)⟩,⟨some 41,.pk (.t 38) (.c (.b true)) (.t 40),none⟩,⟨some 42,.mv (.t 41),none⟩,⟨some 43,.mv (.t 6),some (42,false)⟩,⟨some 44,.mv (.t 8),some (42,false)⟩,⟨some 45,.bi .gtr (.t 43) (.t 44),some (42,false)⟩,⟨some 46,.pk (.t 42) (.c (.b true)) (.t 45),none⟩]]) (.cond (.t 46) (.seq (.reg [.seq [⟨some 4,.mv (.c (.b false)),none⟩]]) .ret) .skip))))) (.reg [.seq [⟨some 14,.mv (.t 5),none⟩,⟨some 15,.bi .add (.t 14) (.c (.i .i64 1)),none⟩,⟨some 5,.mv (.t 15),none⟩]])))
def top_holds.c : PFun := ⟨(.seq (.reg [.seq [⟨some 4,.mv (.c (.b false)),none⟩]]) (.seq (.seq (.reg [.seq [⟨some 5,.mv (.c (.i .i64 0)),none⟩]]) (.block 0 (.loop top_holds.b1))) (.seq (.reg [.seq [⟨some 4,.mv (.c (.b true)),none⟩]]) .ret))), [.t 4]⟩
def level_Num.b1 : PCode := (.seq (.reg [.seq [⟨some 15,.bi .lss (.t 14) (.t 13),none⟩]]) (.seq (.cond (.t 15) .skip (.exit 0)) (.seq (.block 1 (.reg [.seq [⟨some 16,.ld true 3 (.t 4),none⟩,⟨some 17,.bs 3 1 [.i .i64 0,.i .i64 0,.ns] [(0,3,.t 16)],none⟩,⟨some 18,.bd [.i .i64 0,.i .i64 0,.ns] [(0,1,.c (.i .i64 2)),(2,1,.t 17)],none⟩,⟨none,.st 3 (.t 4) (.t 18),none⟩]])) (.reg [.seq [⟨some 19,.bi .add (.t 14) (.c (.i .i64 1)),none⟩,⟨some 14,.mv (.t 19),none⟩]]))))
def level_Num.c : PFun := ⟨(.seq (.reg [.seq [⟨some 2,.al [.i .i64 0,.i .i64 0,.ns],none⟩,⟨some 3,.mv (.c (.i .i64 0)),none⟩]]) (.seq (.seq (.reg [.seq [⟨some 5,.mv (.t 0),none⟩,⟨some 6,.bi .lss (.t 5) (.c (.i .i64 0)),none⟩,⟨some 7,.mv (.t 6),none⟩,⟨some 8,.mv (.t 0),some (7,false)⟩,⟨some 9,.bi .geq (.t 8) (.c (.i .i64 12)),some (7,false)⟩,⟨some 10,.pk (.t 7) (.c (.b true)) (.t 9),none⟩]]) (.cond (.t 10) (.seq (.reg [.seq [⟨some 11,.bd [.i .i64 0,.i .i64 0,.ns] [],none⟩,⟨none,.st 3 (.t 2) (.t 11),none⟩,⟨some 3,.mv (.c (.i .i64 1)),none⟩]]) .ret) .skip)) (.seq (.reg [.seq [⟨some 12,.bd [.i .i64 0,.i .i64 0,.ns] [(0,1,.c (.i .i64 1))],none⟩,⟨some 4,.al [.i .i64 0,.i .i64 0,.ns],none⟩,⟨none,.st 3 (.t 4) (.t 12),none⟩]]) (.seq (.seq (.reg [.seq [⟨some 13,.mv (.t 0),none⟩,⟨some 14,.mv (.c (.i .i64 0)),none⟩]]) (.block 0 (.loop level_Num.b1))) (.seq (.reg [.seq [⟨some 20,.ld true 3 (.t 4),none⟩,⟨none,.st 3 (.t 2) (.t 20),none⟩,⟨some 3,.mv (.c (.i .i64 0)),none⟩]]) .ret))))), [.c 2 true 3,.t 3]⟩
def solve_Solve.c : PFun := ⟨(.seq (.reg [.seq [⟨some 4,.mv (.c .ns),none⟩,⟨some 5,.mv (.c (.b false)),none⟩,⟨some 6,.mv (.c (.i .i64 0)),none⟩,⟨some 7,.mv (.c (.i .i64 0)),none⟩]]) (.seq (.seq (.reg [.seq [⟨some 11,.mv (.t 0),none⟩,⟨some 12,.mv (.t 1),none⟩,⟨some 13,.ca (.c (.fn (.func horn_Right.n) [] [])) [.t 11,.t 12],none⟩,⟨some 14,.un .not (.t 13),none⟩]]) (.cond (.t 14) (.seq (.reg [.seq [⟨some 4,.mv (.c .ns),none⟩,⟨some 5,.mv (.c (.b false)),none⟩,⟨some 6,.mv (.c (.i .i64 0)),none⟩,⟨some 7,.mv (.c (.i .i64 1)),none⟩]]) .ret) .skip)) (.seq (.reg [.any [⟨some 16,.mv (.t 1),none⟩,⟨some 17,.mv (.t 0),none⟩,⟨some 18,.mk 1 [.i .i64 0] (.t 17) (.t 17),none⟩,⟨some 19,.mv (.t 0),none⟩,⟨some 20,.mv (.t 1),none⟩,⟨some 21,.ca (.c (.fn (.func solve_limit.n) [] [])) [.t 19,.t 20],none⟩] [(2,5)],.seq [⟨some 22,.ca (.c (.fn (.func solve_run.n) [] [])) [.t 16,.t 18,.t 21],none⟩],.seq [⟨some 15,.mv (.t 22),none⟩],.any [⟨some 23,.ex (.t 15) 0,none⟩,⟨some 24,.ex (.t 15) 1,none⟩,⟨some 25,.ex (.t 15) 2,none⟩,⟨some 8,.mv (.t 23),none⟩,⟨some 9,.mv (.t 24),none⟩] [],.seq [⟨some 10,.mv (.t 25),none⟩]]) (.seq (.reg [.seq [⟨some 26,.mv (.t 8),none⟩,⟨some 27,.mv (.t 9),none⟩,⟨some 28,.mv (.t 10),none⟩,⟨some 4,.mv (.t 26),none⟩,⟨some 5,.mv (.t 27),none⟩,⟨some 6,.mv (.t 28),none⟩,⟨some 7,.mv (.c (.i .i64 0)),none⟩]]) .ret)))), [.t 4,.t 5,.t 6,.t 7]⟩
def slices_ContainsFunc_Decl.c : PFun := ⟨(.seq (.reg [.seq [⟨some 4,.mv (.c (.b false)),none⟩]]) (.seq (.reg [.seq [⟨some 5,.mv (.t 0),none⟩,⟨some 6,.mv (.t 1),none⟩,⟨some 7,.ca (.c (.fn (.func slices_IndexFunc_Decl.n) [] [])) [.t 5,.t 6],none⟩,⟨some 8,.bi .geq (.t 7) (.c (.i .i64 0)),none⟩,⟨some 4,.mv (.t 8),none⟩]]) .ret)), [.t 4]⟩
def law02_Maker_Pick.c : PFun := ⟨(.seq (.reg [.seq [⟨some 4,.mv (.c (.i .i64 0)),none⟩]]) (.seq (.reg [.seq [⟨some 5,.mv (.t 0),none⟩,⟨some 6,.nc (.t 5),none⟩,⟨some 7,.fa 1 (.t 6),none⟩,⟨some 8,.ld false 1 (.t 7),none⟩,⟨some 9,.bi .add (.t 8) (.c (.i .i64 1)),none⟩,⟨some 10,.nc (.t 5),none⟩,⟨some 11,.fa 1 (.t 10),none⟩,⟨none,.st 1 (.t 11) (.t 9),none⟩]]) (.seq (.seq (.reg [.any [⟨some 12,.mv (.t 0),none⟩,⟨some 13,.nc (.t 12),none⟩,⟨some 14,.fa 1 (.t 13),none⟩,⟨some 15,.ld false 1 (.t 14),none⟩,⟨some 16,.mv (.t 0),none⟩,⟨some 17,.nc (.t 16),none⟩,⟨some 18,.fa 0 (.t 17),none⟩,⟨some 19,.ld false 1 (.t 18),none⟩,⟨some 20,.ln .l (.t 19),none⟩] [],.seq [⟨some 21,.bi .gtr (.t 15) (.t 20),none⟩]]) (.cond (.t 21) (.seq (.reg [.seq [⟨some 4,.mv (.c (.i .i64 0)),none⟩]]) .ret) .skip)) (.seq (.reg [.any [⟨some 22,.mv (.t 0),none⟩,⟨some 23,.nc (.t 22),none⟩,⟨some 24,.fa 0 (.t 23),none⟩,⟨some 25,.ld false 1 (.t 24),none⟩,⟨some 26,.mv (.t 0),none⟩,⟨some 27,.nc (.t 26),none⟩,⟨some 28,.fa 1 (.t 27),none⟩,⟨some 29,.ld false 1 (.t 28),none⟩,⟨some 30,.bi .sub (.t 29) (.c (.i .i64 1)),none⟩,⟨some 31,.ia 1 (.t 25) (.t 30),none⟩,⟨some 32,.ld false 1 (.t 31),none⟩,⟨some 33,.ci .i64 (.t 32),none⟩,⟨some 34,.mv (.t 1),none⟩] [],.seq [⟨some 35,.bi .rem (.t 33) (.t 34),none⟩],.seq [⟨some 4,.mv (.t 35),none⟩]]) .ret)))), [.t 4]⟩
def under_Right.c : PFun := ⟨(.seq (.reg [.seq [⟨some 3,.bx (.t 1),none⟩,⟨some 4,.mv (.c (.b false)),none⟩]]) (.seq (.reg [.seq [⟨some 6,.mf (.func under_Right_1.n) [] [.t 3],none⟩,⟨some 5,.mv (.t 6),none⟩]]) (.seq (.reg [.seq [⟨some 7,.ld false 1 (.t 3),none⟩,⟨some 8,.bi .geq (.t 7) (.c (.i .i64 0)),none⟩,⟨some 9,.mv (.t 8),none⟩,⟨some 10,.ld false 1 (.t 3),some (9,true)⟩,⟨some 11,.bi .leq (.t 10) (.c (.i .i64 5)),some (9,true)⟩,⟨some 12,.pk (.t 9) (.t 11) (.c (.b false)),none⟩,⟨some 13,.mv (.t 12),none⟩,⟨some 14,.mv (.t 0),some (13,true)⟩,⟨some 15,.ln .l (.t 14),some (13,true)⟩,⟨some 16,.bi .leq (.t 15) (.c (.i .i64 8)),some (13,true)⟩,⟨some 17,.pk (.t 13) (.t 16) (.c (.b false)),none⟩,⟨some 18,.mv (.t 17),none⟩,⟨some 19,.mv (.t 0),some (18,true)⟩,⟨some 20,.mv (.t 5),some (18,true)⟩,⟨some 21,.ca (.c (.fn (.func slices_ContainsFunc_Con.n) [] [])) [.t 19,.t 20],some (18,true)⟩,⟨some 22,.un .not (.t 21),some (18,true)⟩,⟨some 23,.pk (.t 18) (.t 22) (.c (.b false)),none⟩,⟨some 4,.mv (.t 23),none⟩]]) .ret))), [.t 4]⟩
def level_Right.c : PFun := ⟨(.seq (.reg [.seq [⟨some 3,.bx (.t 0),none⟩,⟨some 6,.mv (.c (.b false)),none⟩]]) (.seq (.seq (.reg [.seq [⟨some 7,.mv (.t 1),none⟩,⟨some 8,.bi .lss (.t 7) (.c (.i .i64 0)),none⟩,⟨some 9,.mv (.t 8),none⟩,⟨some 10,.mv (.t 1),some (9,false)⟩,⟨some 11,.bi .gtr (.t 10) (.c (.i .i64 5)),some (9,false)⟩,⟨some 12,.pk (.t 9) (.c (.b true)) (.t 11),none⟩,⟨some 13,.mv (.t 12),none⟩,⟨some 14,.mv (.t 2),some (13,false)⟩,⟨some 15,.bi .lss (.t 14) (.c (.i .i64 0)),some (13,false)⟩,⟨some 16,.pk (.t 13) (.c (.b true)) (.t 15),none⟩,⟨some 17,.mv (.t 16),none⟩,⟨some 18,.mv (.t 2),some (17,false)⟩,⟨some 19,.bi .gtr (.t 18) (.c (.i .i64 10)),some (17,false)⟩,⟨some 20,.pk (.t 17) (.c (.b true)) (.t 19),none⟩]]) (.cond (.t 20) (.seq (.reg [.seq [⟨some 6,.mv (.c (.b false)),none⟩]]) .ret) .skip)) (.seq (.reg [.seq [⟨some 21,.ld true 3 (.t 3),none⟩,⟨some 22,.ca (.c (.fn (.func level_nodes.n) [] [])) [.t 21,.c (.i .i64 101)],none⟩,⟨some 23,.bi .leq (.t 22) (.c (.i .i64 100)),none⟩,⟨some 24,.mv (.t 23),none⟩,⟨some 25,.ld true 3 (.t 3),some (24,true)⟩,⟨some 26,.mv (.t 1),some (24,true)⟩,⟨some 27,.mv (.t 2),some (24,true)⟩,⟨some 28,.ca (.c (.fn (.func level_right.n) [] [])) [.t 25,.t 26,.t 27,.c (.i .i64 12)],some (24,true)⟩,⟨some 29,.pk (.t 24) (.t 28) (.c (.b false)),none⟩,⟨some 6,.mv (.t 29),none⟩]]) .ret))), [.t 6]⟩
def under_first.a1 : PCode := (.reg [.seq [⟨some 8,.mv (.t 13),none⟩]])
def under_first.b2 : PCode := (.block 1 (.seq (.reg [.seq [⟨some 15,.ld false 1 (.t 5),none⟩,⟨some 16,.ld false 1 (.t 3),none⟩,⟨some 17,.mv (.t 8),none⟩,⟨some 18,.bd [.ns,.ns] [(0,1,.t 16),(1,1,.t 17)],none⟩,⟨some 19,.ca (.t 15) [.t 18],none⟩,⟨some 14,.mv (.t 19),none⟩,⟨some 20,.ex (.t 14) 0,none⟩,⟨some 21,.ex (.t 14) 1,none⟩,⟨some 9,.mv (.t 20),none⟩,⟨some 10,.mv (.t 21),none⟩]]) (.seq (.reg [.seq [⟨some 22,.mv (.t 10),none⟩]]) (.cond (.t 22) (.seq (.reg [.seq [⟨some 23,.mv (.t 9),none⟩,⟨none,.st 1 (.t 6) (.t 23),none⟩,⟨none,.st 1 (.t 7) (.c (.b true)),none⟩]]) .ret) .skip))))
def under_first.c : PFun := ⟨(.seq (.reg [.seq [⟨some 3,.bx (.t 0),none⟩,⟨some 5,.bx (.t 2),none⟩,⟨some 6,.al [.ns],none⟩,⟨some 7,.al [.b false],none⟩]]) (.seq (.seq (.reg [.seq [⟨some 11,.mv (.t 1),none⟩,⟨some 12,.ca (.c (.fn (.func leq_All.n) [] [])) [.t 11],none⟩]]) (.block 0 (.rf (.t 12) [13] under_first.a1 under_first.b2))) (.seq (.reg [.seq [⟨none,.st 1 (.t 6) (.c .ns),none⟩,⟨none,.st 1 (.t 7) (.c (.b false)),none⟩]]) .ret))), [.c 6 false 1,.c 7 false 1]⟩
def under_Leq_1.b1 : PCode := (.seq (.reg [.seq [⟨some 26,.bi .lss (.t 25) (.t 24),none⟩]]) (.seq (.cond (.t 26) .skip (.exit 2)) (.seq (.block 3 (.seq (.reg [.seq [⟨some 27,.ia 2 (.t 23) (.t 25),none⟩,⟨some 28,.ld true 2 (.t 27),none⟩,⟨some 10,.al [.i .i64 0,.i .i64 0],none⟩,⟨none,.st 2 (.t 10) (.t 28),none⟩]]) (.reg [.seq [⟨some 29,.mv (.t 8),none⟩,⟨some 30,.ld true 2 (.t 7),none⟩,⟨some 31,.bs 2 1 [.i .i64 0,.i .i64 0] [(0,2,.t 30)],none⟩,⟨some 32,.fa 0 (.t 10),none⟩,⟨some 33,.ld false 1 (.t 32),none⟩,⟨some 34,.fa 1 (.t 10),none⟩,⟨some 35,.ld false 1 (.t 34),none⟩,⟨some 36,.bi .add (.t 35) (.c (.i .i64 1)),none⟩,⟨some 37,.bd [.i .i64 0,.i .i64 0] [(0,1,.t 33),(1,1,.t 36)],none⟩,⟨some 38,.bd [.ns,.i .i64 0,.i .i64 0] [(0,1,.t 31),(1,2,.t 37)],none⟩,⟨some 39,.bs 3 1 [.ns,.i .i64 0,.i .i64 0] [(0,3,.t 38)],none⟩,⟨some 40,.ap 3 (.t 29) (.t 39),none⟩,⟨some 8,.mv (.t 40),none⟩]]))) (.reg [.seq [⟨some 41,.bi .add (.t 25) (.c (.i .i64 1)),none⟩,⟨some 25,.mv (.t 41),none⟩]]))))
def under_Leq_1.b2 : PCode := (.seq (.reg [.seq [⟨some 18,.bi .lss (.t 17) (.t 16),none⟩]]) (.seq (.cond (.t 18) .skip (.exit 0)) (.seq (.block 1 (.seq (.reg [.seq [⟨some 19,.ia 2 (.t 15) (.t 17),none⟩,⟨some 20,.ld true 2 (.t 19),none⟩,⟨some 7,.al [.i .i64 0,.i .i64 0],none⟩,⟨none,.st 2 (.t 7) (.t 20),none⟩]]) (.seq (.reg [.seq [⟨some 8,.mv (.c .ns),none⟩]]) (.seq (.seq (.reg [.seq [⟨some 21,.ld true 2 (.t 3),none⟩,⟨some 22,.ld true 3 (.t 2),none⟩,⟨some 23,.ca (.c (.fn (.func under_situation_atoms.n) [] [])) [.t 21,.t 22],none⟩,⟨some 24,.ln .l (.t 23),none⟩,⟨some 25,.mv (.c (.i .i64 0)),none⟩]]) (.block 2 (.loop under_Leq_1.b1))) (.seq (.reg [.seq [⟨some 43,.ld true 2 (.t 3),none⟩,⟨some 44,.mv (.t 8),none⟩,⟨some 45,.ca (.c (.fn (.func under_situation_values.n) [] [])) [.t 43,.t 44],none⟩,⟨some 42,.mv (.t 45),none⟩,⟨some 46,.ex (.t 42) 0,none⟩,⟨some 47,.ex (.t 42) 1,none⟩,⟨some 11,.mv (.t 46),none⟩,⟨some 12,.mv (.t 47),none⟩]]) (.seq (.reg [.seq [⟨some 48,.mv (.t 12),none⟩]]) (.cond (.t 48) (.seq (.reg [.seq [⟨some 49,.mv (.t 11),none⟩,⟨some 4,.mv (.t 49),none⟩,⟨some 5,.mv (.c (.b true)),none⟩]]) .ret) .skip))))))) (.reg [.seq [⟨some 50,.bi .add (.t 17) (.c (.i .i64 1)),none⟩,⟨some 17,.mv (.t 50),none⟩]]))))
def under_Leq_1.c : PFun := ⟨(.seq (.reg [.seq [⟨some 3,.bx (.t 0),none⟩,⟨some 4,.mv (.c .ns),none⟩,⟨some 5,.mv (.c (.b false)),none⟩]]) (.seq (.seq (.reg [.seq [⟨some 13,.ld true 2 (.t 3),none⟩,⟨some 14,.ld true 3 (.t 1),none⟩,⟨some 15,.ca (.c (.fn (.func under_situation_atoms.n) [] [])) [.t 13,.t 14],none⟩,⟨some 16,.ln .l (.t 15),none⟩,⟨some 17,.mv (.c (.i .i64 0)),none⟩]]) (.block 0 (.loop under_Leq_1.b2))) (.seq (.reg [.seq [⟨some 4,.mv (.c .ns),none⟩,⟨some 5,.mv (.c (.b false)),none⟩]]) .ret))), [.t 4,.t 5]⟩
def under_situation_atoms.b1 : PCode := (.seq (.reg [.seq [⟨some 25,.bi .lss (.t 24) (.t 23),none⟩]]) (.seq (.cond (.t 25) .skip (.exit 0)) (.seq (.block 1 (.seq (.reg [.seq [⟨some 26,.mv (.t 24),none⟩,⟨some 27,.ia 1 (.t 22) (.t 24),none⟩,⟨some 28,.ld false 1 (.t 27),none⟩,⟨some 8,.mv (.t 26),none⟩,⟨some 9,.mv (.t 28),none⟩]]) (.seq (.reg [.seq [⟨some 29,.mv (.t 9),none⟩,⟨some 30,.bi .geq (.t 29) (.c (.i .i64 0)),none⟩]]) (.cond (.t 30) (.reg [.seq [⟨some 31,.mv (.t 7),none⟩,⟨some 32,.mv (.t 8),none⟩,⟨some 33,.bi .add (.t 32) (.c (.i .i64 1)),none⟩,⟨some 34,.mv (.t 9),none⟩,⟨some 35,.bd [.i .i64 0,.i .i64 0] [(0,1,.t 33),(1,1,.t 34)],none⟩,⟨some 36,.bs 2 1 [.i .i64 0,.i .i64 0] [(0,2,.t 35)],none⟩,⟨some 37,.ap 2 (.t 31) (.t 36),none⟩,⟨some 7,.mv (.t 37),none⟩]]) .skip)))) (.reg [.seq [⟨some 38,.bi .add (.t 24) (.c (.i .i64 1)),none⟩,⟨some 24,.mv (.t 38),none⟩]]))))
def under_situation_atoms.c : PFun := ⟨(.seq (.reg [.seq [⟨some 2,.bx (.t 0),none⟩,⟨some 3,.bx (.t 1),none⟩,⟨some 4,.mv (.c .ns),none⟩]]) (.seq (.reg [.seq [⟨some 11,.ld true 3 (.t 3),none⟩,⟨some 12,.fa 1 (.t 2),none⟩,⟨some 13,.ld false 1 (.t 12),none⟩,⟨some 14,.ca (.c (.fn (.func flat_Flatten.n) [] [])) [.t 11,.t 13],none⟩,⟨some 10,.mv (.t 14),none⟩,⟨some 15,.ex (.t 10) 0,none⟩,⟨some 16,.ex (.t 10) 1,none⟩,⟨some 5,.al [.i .i64 0,.ns],none⟩,⟨none,.st 2 (.t 5) (.t 15),none⟩,⟨some 6,.mv (.t 16),none⟩]]) (.seq (.reg [.seq [⟨some 17,.fa 0 (.t 5),none⟩,⟨some 18,.ld false 1 (.t 17),none⟩,⟨some 19,.bd [.i .i64 0,.i .i64 0] [(1,1,.t 18)],none⟩,⟨some 20,.bs 2 1 [.i .i64 0,.i .i64 0] [(0,2,.t 19)],none⟩,⟨some 7,.mv (.t 20),none⟩]]) (.seq (.seq (.reg [.seq [⟨some 21,.fa 1 (.t 5),none⟩,⟨some 22,.ld false 1 (.t 21),none⟩,⟨some 23,.ln .l (.t 22),none⟩,⟨some 24,.mv (.c (.i .i64 0)),none⟩]]) (.block 0 (.loop under_situation_atoms.b1))) (.seq (.reg [.seq [⟨some 39,.mv (.t 7),none⟩,⟨some 4,.mv (.t 39),none⟩]]) .ret))))), [.t 4]⟩
def under_situation_values.b1 : PCode := (.seq (.reg [.seq [⟨some 40,.bi .lss (.t 39) (.t 38),none⟩]]) (.seq (.cond (.t 40) .skip (.exit 0)) (.seq (.block 1 (.seq (.reg [.seq [⟨some 41,.mv (.t 39),none⟩,⟨some 42,.ia 1 (.t 37) (.t 39),none⟩,⟨some 43,.ld false 1 (.t 42),none⟩,⟨some 12,.mv (.t 41),none⟩,⟨some 13,.mv (.t 43),none⟩]]) (.seq (.reg [.seq [⟨some 44,.mv (.t 13),none⟩,⟨some 45,.un .not (.t 44),none⟩]]) (.cond (.t 45) (.reg [.any [⟨some 46,.mv (.t 11),none⟩,⟨some 47,.mv (.t 12),none⟩,⟨some 48,.mv (.t 7),none⟩,⟨some 49,.ia 1 (.t 48) (.c (.i .i64 0)),none⟩,⟨some 50,.ld false 1 (.t 49),none⟩,⟨some 51,.mv (.t 7),none⟩,⟨some 52,.mv (.t 12),none⟩,⟨some 53,.bi .add (.t 52) (.c (.i .i64 1)),none⟩,⟨some 54,.ia 1 (.t 51) (.t 53),none⟩,⟨some 55,.ld false 1 (.t 54),none⟩,⟨some 56,.bi .sub (.t 50) (.t 55),none⟩] [],.seq [⟨some 57,.ia 1 (.t 46) (.t 47),none⟩],.seq [⟨none,.st 1 (.t 57) (.t 56),none⟩]]) .skip)))) (.reg [.seq [⟨some 58,.bi .add (.t 39) (.c (.i .i64 1)),none⟩,⟨some 39,.mv (.t 58),none⟩]]))))
def under_situation_values.c : PFun := ⟨(.seq (.reg [.seq [⟨some 2,.bx (.t 0),none⟩,⟨some 4,.mv (.c .ns),none⟩,⟨some 5,.mv (.c (.b false)),none⟩]]) (.seq (.reg [.seq [⟨some 14,.ld true 2 (.t 2),none⟩,⟨some 15,.ca (.c (.fn (.func under_situation_clauses.n) [] [])) [.t 14],none⟩,⟨some 16,.ca (.c (.fn (.func slices_Collect_Clause.n) [] [])) [.t 15],none⟩,⟨some 17,.mv (.t 1),none⟩,⟨some 18,.ap 3 (.t 16) (.t 17),none⟩,⟨some 6,.mv (.t 18),none⟩]]) (.seq (.reg [.seq [⟨some 20,.fa 1 (.t 2),none⟩,⟨some 21,.ld false 1 (.t 20),none⟩,⟨some 22,.ln .l (.t 21),none⟩,⟨some 23,.bi .add (.t 22) (.c (.i .i64 1)),none⟩,⟨some 24,.mv (.t 6),none⟩,⟨some 25,.ca (.c (.fn (.func solve_Solve.n) [] [])) [.t 23,.t 24],none⟩,⟨some 19,.mv (.t 25),none⟩,⟨some 26,.ex (.t 19) 0,none⟩,⟨some 27,.ex (.t 19) 1,none⟩,⟨some 28,.ex (.t 19) 2,none⟩,⟨some 29,.ex (.t 19) 3,none⟩,⟨some 7,.mv (.t 26),none⟩,⟨some 8,.mv (.t 27),none⟩,⟨some 9,.mv (.t 28),none⟩,⟨some 10,.mv (.t 29),none⟩]]) (.seq (.seq (.reg [.seq [⟨some 30,.mv (.t 8),none⟩,⟨some 31,.un .not (.t 30),none⟩]]) (.cond (.t 31) (.seq (.reg [.seq [⟨some 4,.mv (.c .ns),none⟩,⟨some 5,.mv (.c (.b false)),none⟩]]) .ret) .skip)) (.seq (.reg [.seq [⟨some 32,.fa 1 (.t 2),none⟩,⟨some 33,.ld false 1 (.t 32),none⟩,⟨some 34,.ln .l (.t 33),none⟩,⟨some 35,.mk 1 [.i .i64 0] (.t 34) (.t 34),none⟩,⟨some 11,.mv (.t 35),none⟩]]) (.seq (.seq (.reg [.seq [⟨some 36,.fa 1 (.t 2),none⟩,⟨some 37,.ld false 1 (.t 36),none⟩,⟨some 38,.ln .l (.t 37),none⟩,⟨some 39,.mv (.c (.i .i64 0)),none⟩]]) (.block 0 (.loop under_situation_values.b1))) (.seq (.reg [.seq [⟨some 59,.mv (.t 11),none⟩,⟨some 4,.mv (.t 59),none⟩,⟨some 5,.mv (.c (.b true)),none⟩]]) .ret))))))), [.t 4,.t 5]⟩
def level_Eval_1.c : PFun := ⟨(.seq (.reg [.seq [⟨some 2,.mv (.c (.b false)),none⟩]]) (.seq (.reg [.seq [⟨some 3,.mv (.t 0),none⟩,⟨some 4,.bi .lss (.t 3) (.c (.i .i64 0)),none⟩,⟨some 5,.mv (.t 4),none⟩,⟨some 6,.mv (.t 0),some (5,false)⟩,⟨some 7,.bi .gtr (.t 6) (.c (.i .i64 1099511627776)),some (5,false)⟩,⟨some 8,.pk (.t 5) (.c (.b true)) (.t 7),none⟩,⟨some 2,.mv (.t 8),none⟩]]) .ret)), [.t 2]⟩
def slices_ContainsFunc_int.c : PFun := ⟨(.seq (.reg [.seq [⟨some 4,.mv (.c (.b false)),none⟩]]) (.seq (.reg [.seq [⟨some 5,.mv (.t 0),none⟩,⟨some 6,.mv (.t 1),none⟩,⟨some 7,.ca (.c (.fn (.func slices_IndexFunc_int.n) [] [])) [.t 5,.t 6],none⟩,⟨some 8,.bi .geq (.t 7) (.c (.i .i64 0)),none⟩,⟨some 4,.mv (.t 8),none⟩]]) .ret)), [.t 4]⟩
def level_value.b1 : PCode := (.seq (.reg [.seq [⟨some 12,.bi .lss (.t 11) (.t 10),none⟩]]) (.seq (.cond (.t 12) .skip (.exit 0)) (.seq (.block 1 (.seq (.reg [.seq [⟨some 13,.ia 3 (.t 9) (.t 11),none⟩,⟨some 14,.ld true 3 (.t 13),none⟩,⟨some 7,.al [.i .i64 0,.i .i64 0,.ns],none⟩,⟨none,.st 3 (.t 7) (.t 14),none⟩]]) (.reg [.seq [⟨some 15,.mv (.t 5),none⟩,⟨some 16,.ld true 3 (.t 7),none⟩,⟨some 17,.ld true 2 (.t 3),none⟩,⟨some 18,.ca (.c (.fn (.func level_value.n) [] [])) [.t 16,.t 17],none⟩,⟨some 19,.bs 1 1 [.i .i64 0] [(0,1,.t 18)],none⟩,⟨some 20,.ap 1 (.t 15) (.t 19),none⟩,⟨some 5,.mv (.t 20),none⟩]]))) (.reg [.seq [⟨some 21,.bi .add (.t 11) (.c (.i .i64 1)),none⟩,⟨some 11,.mv (.t 21),none⟩]]))))
def level_value.c : PFun := ⟨(.seq (.reg [.seq [⟨some 2,.bx (.t 0),none⟩,⟨some 3,.bx (.t 1),none⟩,⟨some 4,.mv (.c (.i .i64 0)),none⟩]]) (.seq (.reg [.seq [⟨some 5,.mv (.c .ns),none⟩]]) (.seq (.seq (.reg [.seq [⟨some 8,.fa 2 (.t 2),none⟩,⟨some 9,.ld false 1 (.t 8),none⟩,⟨some 10,.ln .l (.t 9),none⟩,⟨some 11,.mv (.c (.i .i64 0)),none⟩]]) (.block 0 (.loop level_value.b1))) (.seq (.reg [.any [⟨some 22,.ca (.c (.fn (.func level_kinds.n) [] [])) [],none⟩,⟨some 23,.fa 0 (.t 2),none⟩,⟨some 24,.ld false 1 (.t 23),none⟩,⟨some 25,.lk (.one .i) (.ag [.i .i64 0,.nf]) (.t 22) (.t 24) false,none⟩,⟨some 26,.fe false 1 1 (.t 25),none⟩,⟨some 27,.ld true 3 (.t 2),none⟩,⟨some 28,.ld true 2 (.t 3),none⟩,⟨some 29,.mv (.t 5),none⟩] [(0,2),(0,5),(0,6)],.seq [⟨some 30,.ca (.t 26) [.t 27,.t 28,.t 29],none⟩],.seq [⟨some 4,.mv (.t 30),none⟩]]) .ret)))), [.t 4]⟩
def horn_Right.a1 : PCode := (.reg [.seq [⟨some 7,.al [.i .i64 0,.i .i64 0],none⟩,⟨none,.st 2 (.t 7) (.t 27),none⟩]])
def horn_Right.b2 : PCode := (.block 1 (.seq (.reg [.seq [⟨some 28,.fa 0 (.t 7),none⟩,⟨some 29,.ld false 1 (.t 28),none⟩,⟨some 30,.bi .lss (.t 29) (.c (.i .i64 0)),none⟩,⟨some 31,.mv (.t 30),none⟩,⟨some 32,.fa 0 (.t 7),some (31,false)⟩,⟨some 33,.ld false 1 (.t 32),some (31,false)⟩,⟨some 34,.ld false 1 (.t 2),some (31,false)⟩,⟨some 35,.bi .geq (.t 33) (.t 34),some (31,false)⟩,⟨some 36,.pk (.t 31) (.c (.b true)) (.t 35),none⟩,⟨some 37,.mv (.t 36),none⟩,⟨some 38,.fa 1 (.t 7),some (37,false)⟩,⟨some 39,.ld false 1 (.t 38),some (37,false)⟩,⟨some 40,.bi .lss (.t 39) (.c (.i .i64 0)),some (37,false)⟩,⟨some 41,.pk (.t 37) (.c (.b true)) (.t 40),none⟩,⟨some 42,.mv (.t 41),none⟩,⟨some 43,.fa 1 (.t 7),some (42,false)⟩,⟨some 44,.ld false 1 (.t 43),some (42,false)⟩,⟨some 45,.bi .gtr (.t 44) (.c (.i .i64 1000)),some (42,false)⟩,⟨some 46,.pk (.t 42) (.c (.b true)) (.t 45),none⟩]]) (.cond (.t 46) (.seq (.reg [.seq [⟨none,.st 1 (.t 4) (.c (.b false)),none⟩]]) .ret) .skip)))
def horn_Right.c : PFun := ⟨(.seq (.reg [.seq [⟨some 2,.bx (.t 0),none⟩,⟨some 4,.al [.b false],none⟩]]) (.seq (.reg [.seq [⟨some 5,.mv (.c (.fn (.func horn_Right_1.n) [] [])),none⟩]]) (.seq (.seq (.reg [.seq [⟨some 8,.ld false 1 (.t 2),none⟩,⟨some 9,.bi .lss (.t 8) (.c (.i .i64 1)),none⟩,⟨some 10,.mv (.t 9),none⟩,⟨some 11,.ld false 1 (.t 2),some (10,false)⟩,⟨some 12,.bi .gtr (.t 11) (.c (.i .i64 16)),some (10,false)⟩,⟨some 13,.pk (.t 10) (.c (.b true)) (.t 12),none⟩,⟨some 14,.mv (.t 13),none⟩,⟨some 15,.mv (.t 1),some (14,false)⟩,⟨some 16,.ln .l (.t 15),some (14,false)⟩,⟨some 17,.bi .gtr (.t 16) (.c (.i .i64 60)),some (14,false)⟩,⟨some 18,.pk (.t 14) (.c (.b true)) (.t 17),none⟩,⟨some 19,.mv (.t 18),none⟩,⟨some 20,.mv (.t 1),some (19,false)⟩,⟨some 21,.mv (.t 5),some (19,false)⟩,⟨some 22,.ca (.c (.fn (.func slices_ContainsFunc_Clause.n) [] [])) [.t 20,.t 21],some (19,false)⟩,⟨some 23,.pk (.t 19) (.c (.b true)) (.t 22),none⟩]]) (.cond (.t 23) (.seq (.reg [.seq [⟨none,.st 1 (.t 4) (.c (.b false)),none⟩]]) .ret) .skip)) (.seq (.seq (.reg [.seq [⟨some 24,.mv (.t 1),none⟩,⟨some 25,.ca (.c (.fn (.func horn_atoms.n) [] [])) [.t 24],none⟩]]) (.block 0 (.rf (.t 25) [26,27] horn_Right.a1 horn_Right.b2))) (.seq (.reg [.seq [⟨none,.st 1 (.t 4) (.c (.b true)),none⟩]]) .ret))))), [.c 4 false 1]⟩
def solve_run.a1 : PCode := (.reg [.seq [⟨some 10,.al [.i .i64 0,.i .i64 0,.i .i64 0,.i .i64 0,.i .i64 0,.i .i64 0,.i .i64 0,.i .i64 0,.i .i64 0,.i .i64 0,.i .i64 0,.i .i64 0,.i .i64 0,.i .i64 0,.i .i64 0,.i .i64 0],none⟩,⟨none,.st 16 (.t 10) (.t 16),none⟩]])
def solve_run.b2 : PCode := (.block 1 (.seq (.reg [.seq [⟨some 17,.ld false 1 (.t 8),none⟩,⟨some 18,.ld false 1 (.t 3),none⟩,⟨some 19,.ln .l (.t 18),none⟩,⟨some 20,.bi .add (.t 17) (.t 19),none⟩,⟨none,.st 1 (.t 8) (.t 20),none⟩]]) (.seq (.block 2 (.seq (.reg [.any [⟨some 22,.sa 16 1 (.t 10) none none,none⟩,⟨some 23,.ca (.c (.fn (.func slices_Max_int.n) [] [])) [.t 22],none⟩,⟨some 24,.ld false 1 (.t 5),none⟩] [(1,2)],.seq [⟨some 25,.bi .gtr (.t 23) (.t 24),none⟩],.seq [⟨some 21,.mv (.t 25),none⟩]]) (.cond (.t 21) (.seq (.reg [.any [⟨some 26,.ld false 1 (.t 8),none⟩,⟨none,.st 1 (.t 6) (.c .ns),none⟩,⟨none,.st 1 (.t 7) (.c (.b false)),none⟩] [(0,1),(0,2)],.seq [⟨none,.st 1 (.t 8) (.t 26),none⟩]]) .ret) (.seq (.reg [.seq [⟨some 28,.ld true 16 (.t 10),none⟩,⟨some 29,.ld true 16 (.t 9),none⟩,⟨some 30,.eq false (.many [.i,.i,.i,.i,.i,.i,.i,.i,.i,.i,.i,.i,.i,.i,.i,.i]) (.t 28) (.t 29),none⟩,⟨some 27,.mv (.t 30),none⟩]]) (.cond (.t 27) (.seq (.reg [.any [⟨some 31,.ld false 1 (.t 4),none⟩,⟨some 32,.ln .l (.t 31),none⟩,⟨some 33,.sa 16 1 (.t 10) none (some (.t 32)),none⟩,⟨some 34,.ca (.c (.fn (.func slices_Clone_int.n) [] [])) [.t 33],none⟩,⟨some 35,.ld false 1 (.t 8),none⟩,⟨none,.st 1 (.t 6) (.t 34),none⟩,⟨none,.st 1 (.t 7) (.c (.b true)),none⟩] [(3,4),(4,5),(4,6)],.seq [⟨none,.st 1 (.t 8) (.t 35),none⟩]]) .ret) .skip))))) (.reg [.seq [⟨some 36,.ld true 16 (.t 10),none⟩,⟨none,.st 16 (.t 9) (.t 36),none⟩]]))))
def solve_run.c : PFun := ⟨(.seq (.reg [.seq [⟨some 3,.bx (.t 0),none⟩,⟨some 4,.bx (.t 1),none⟩,⟨some 5,.bx (.t 2),none⟩,⟨some 6,.al [.ns],none⟩,⟨some 7,.al [.b false],none⟩,⟨some 8,.al [.i .i64 0],none⟩]]) (.seq (.reg [.seq [⟨some 11,.ld false 1 (.t 4),none⟩,⟨some 12,.ca (.c (.fn (.func solve_of.n) [] [])) [.t 11],none⟩,⟨some 9,.al [.i .i64 0,.i .i64 0,.i .i64 0,.i .i64 0,.i .i64 0,.i .i64 0,.i .i64 0,.i .i64 0,.i .i64 0,.i .i64 0,.i .i64 0,.i .i64 0,.i .i64 0,.i .i64 0,.i .i64 0,.i .i64 0],none⟩,⟨none,.st 16 (.t 9) (.t 12),none⟩]]) (.seq (.seq (.reg [.seq [⟨some 13,.ld true 16 (.t 9),none⟩,⟨some 14,.ld false 1 (.t 3),none⟩,⟨some 15,.ca (.c (.fn (.func solve_model_rounds.n) [] [])) [.t 13,.t 14],none⟩]]) (.block 0 (.rf (.t 15) [16] solve_run.a1 solve_run.b2))) (.seq (.reg [.any [⟨some 37,.ld false 1 (.t 8),none⟩,⟨none,.st 1 (.t 6) (.c .ns),none⟩,⟨none,.st 1 (.t 7) (.c (.b false)),none⟩] [(0,1),(0,2)],.seq [⟨none,.st 1 (.t 8) (.t 37),none⟩]]) .ret)))), [.c 6 false 1,.c 7 false 1,.c 8 false 1]⟩
def solve_limit.c : PFun := ⟨(.seq (.reg [.seq [⟨some 4,.mv (.c (.i .i64 0)),none⟩]]) (.seq (.reg [.seq [⟨some 8,.mv (.t 0),none⟩,⟨some 9,.mv (.t 1),none⟩,⟨some 10,.ca (.c (.fn (.func horn_Most.n) [] [])) [.t 8,.t 9],none⟩,⟨some 7,.mv (.t 10),none⟩,⟨some 11,.ex (.t 7) 0,none⟩,⟨some 12,.ex (.t 7) 1,none⟩,⟨some 5,.mv (.t 11),none⟩,⟨some 6,.mv (.t 12),none⟩]]) (.seq (.reg [.seq [⟨some 13,.mv (.t 0),none⟩,⟨some 14,.bi .sub (.t 13) (.c (.i .i64 1)),none⟩,⟨some 15,.mv (.t 5),none⟩,⟨some 16,.bi .mul (.t 14) (.t 15),none⟩,⟨some 4,.mv (.t 16),none⟩]]) .ret))), [.t 4]⟩
def leq_All.c : PFun := ⟨(.seq (.reg [.seq [⟨some 1,.bx (.t 0),none⟩,⟨some 2,.mv (.c .nf),none⟩]]) (.seq (.reg [.seq [⟨some 3,.mf (.func leq_All_1.n) [] [.t 1],none⟩,⟨some 2,.mv (.t 3),none⟩]]) .ret)), [.t 2]⟩
def flat_Flatten.c : PFun := ⟨(.seq (.reg [.seq [⟨some 2,.bx (.t 0),none⟩,⟨some 4,.al [.i .i64 0,.ns],none⟩,⟨some 5,.mv (.c (.i .i64 0)),none⟩]]) (.seq (.seq (.reg [.seq [⟨some 8,.ld true 3 (.t 2),none⟩,⟨some 9,.mv (.t 1),none⟩,⟨some 10,.ln .l (.t 9),none⟩,⟨some 11,.ca (.c (.fn (.func level_Right.n) [] [])) [.t 8,.t 10,.c (.i .i64 0)],none⟩,⟨some 12,.un .not (.t 11),none⟩]]) (.cond (.t 12) (.seq (.reg [.seq [⟨some 13,.bd [.i .i64 0,.ns] [],none⟩,⟨none,.st 2 (.t 4) (.t 13),none⟩,⟨some 5,.mv (.c (.i .i64 1)),none⟩]]) .ret) .skip)) (.seq (.reg [.seq [⟨some 14,.ld true 3 (.t 2),none⟩,⟨some 15,.mv (.t 1),none⟩,⟨some 16,.ca (.c (.fn (.func flat_of.n) [] [])) [.t 14,.t 15],none⟩,⟨some 6,.al [.i .i64 0,.ns],none⟩,⟨none,.st 2 (.t 6) (.t 16),none⟩]]) (.seq (.seq (.reg [.seq [⟨some 17,.ld true 2 (.t 6),none⟩,⟨some 18,.ca (.c (.fn (.func flat_Top.n) [] [])) [.t 17],none⟩,⟨some 7,.mv (.t 18),none⟩]]) (.seq (.reg [.seq [⟨some 19,.mv (.t 7),none⟩,⟨some 20,.bi .neq (.t 19) (.c (.i .i64 (-1))),none⟩,⟨some 21,.mv (.t 20),none⟩,⟨some 22,.fa 0 (.t 6),some (21,true)⟩,⟨some 23,.ld false 1 (.t 22),some (21,true)⟩,⟨some 24,.mv (.t 7),some (21,true)⟩,⟨some 25,.bi .add (.t 24) (.c (.i .i64 1)),some (21,true)⟩,⟨some 26,.bi .leq (.t 23) (.t 25),some (21,true)⟩,⟨some 27,.pk (.t 21) (.t 26) (.c (.b false)),none⟩]]) (.cond (.t 27) (.reg [.seq [⟨some 28,.fa 0 (.t 6),none⟩,⟨none,.st 1 (.t 28) (.c (.i .i64 0)),none⟩]]) .skip))) (.seq (.reg [.seq [⟨some 29,.ld true 2 (.t 6),none⟩,⟨none,.st 2 (.t 4) (.t 29),none⟩,⟨some 5,.mv (.c (.i .i64 0)),none⟩]]) .ret))))), [.c 4 true 2,.t 5]⟩
def flat_Leq.b1 : PCode := (.seq (.reg [.seq [⟨some 28,.bi .lss (.t 27) (.t 26),none⟩]]) (.seq (.cond (.t 28) .skip (.exit 0)) (.seq (.block 1 (.seq (.reg [.seq [⟨some 29,.mv (.t 27),none⟩,⟨some 30,.ia 1 (.t 25) (.t 27),none⟩,⟨some 31,.ld false 1 (.t 30),none⟩,⟨some 5,.mv (.t 29),none⟩,⟨some 6,.mv (.t 31),none⟩]]) (.seq (.reg [.seq [⟨some 32,.mv (.t 6),none⟩,⟨some 33,.fa 1 (.t 3),none⟩,⟨some 34,.ld false 1 (.t 33),none⟩,⟨some 35,.mv (.t 5),none⟩,⟨some 36,.ia 1 (.t 34) (.t 35),none⟩,⟨some 37,.ld false 1 (.t 36),none⟩,⟨some 38,.bi .gtr (.t 32) (.t 37),none⟩]]) (.cond (.t 38) (.seq (.reg [.seq [⟨some 4,.mv (.c (.b false)),none⟩]]) .ret) .skip)))) (.reg [.seq [⟨some 39,.bi .add (.t 27) (.c (.i .i64 1)),none⟩,⟨some 27,.mv (.t 39),none⟩]]))))
def flat_Leq.c : PFun := ⟨(.seq (.reg [.seq [⟨some 2,.bx (.t 0),none⟩,⟨some 3,.bx (.t 1),none⟩,⟨some 4,.mv (.c (.b false)),none⟩]]) (.seq (.seq (.reg [.seq [⟨some 7,.ld true 2 (.t 2),none⟩,⟨some 8,.ca (.c (.fn (.func flat_Right.n) [] [])) [.t 7],none⟩,⟨some 9,.un .not (.t 8),none⟩,⟨some 10,.mv (.t 9),none⟩,⟨some 11,.ld true 2 (.t 3),some (10,false)⟩,⟨some 12,.ca (.c (.fn (.func flat_Right.n) [] [])) [.t 11],some (10,false)⟩,⟨some 13,.un .not (.t 12),some (10,false)⟩,⟨some 14,.pk (.t 10) (.c (.b true)) (.t 13),none⟩,⟨some 15,.mv (.t 14),none⟩,⟨some 16,.fa 1 (.t 2),some (15,false)⟩,⟨some 17,.ld false 1 (.t 16),some (15,false)⟩,⟨some 18,.ln .l (.t 17),some (15,false)⟩,⟨some 19,.fa 1 (.t 3),some (15,false)⟩,⟨some 20,.ld false 1 (.t 19),some (15,false)⟩,⟨some 21,.ln .l (.t 20),some (15,false)⟩,⟨some 22,.bi .neq (.t 18) (.t 21),some (15,false)⟩,⟨some 23,.pk (.t 15) (.c (.b true)) (.t 22),none⟩]]) (.cond (.t 23) (.seq (.reg [.seq [⟨some 4,.mv (.c (.b false)),none⟩]]) .ret) .skip)) (.seq (.seq (.reg [.seq [⟨some 24,.fa 1 (.t 2),none⟩,⟨some 25,.ld false 1 (.t 24),none⟩,⟨some 26,.ln .l (.t 25),none⟩,⟨some 27,.mv (.c (.i .i64 0)),none⟩]]) (.block 0 (.loop flat_Leq.b1))) (.seq (.reg [.any [⟨some 40,.fa 0 (.t 2),none⟩,⟨some 41,.ld false 1 (.t 40),none⟩,⟨some 42,.fa 0 (.t 3),none⟩,⟨some 43,.ld false 1 (.t 42),none⟩,⟨some 44,.ld true 2 (.t 3),none⟩,⟨some 45,.ca (.c (.fn (.func flat_Top.n) [] [])) [.t 44],none⟩,⟨some 46,.bi .add (.t 45) (.c (.i .i64 1)),none⟩,⟨some 47,.mx [.t 43,.t 46],none⟩] [(1,5),(3,5)],.seq [⟨some 48,.bi .leq (.t 41) (.t 47),none⟩],.seq [⟨some 4,.mv (.t 48),none⟩]]) .ret)))), [.t 4]⟩
def slices_EqualFunc_Level.b1 : PCode := (.seq (.reg [.seq [⟨some 18,.bi .lss (.t 17) (.t 16),none⟩]]) (.seq (.cond (.t 18) .skip (.exit 0)) (.seq (.block 1 (.seq (.reg [.seq [⟨some 19,.mv (.t 17),none⟩,⟨some 20,.ia 3 (.t 15) (.t 17),none⟩,⟨some 21,.ld true 3 (.t 20),none⟩,⟨some 8,.al [.i .i64 0,.i .i64 0,.ns],none⟩,⟨some 7,.mv (.t 19),none⟩,⟨none,.st 3 (.t 8) (.t 21),none⟩]]) (.seq (.reg [.seq [⟨some 22,.mv (.t 1),none⟩,⟨some 23,.mv (.t 7),none⟩,⟨some 24,.ia 3 (.t 22) (.t 23),none⟩,⟨some 25,.ld true 3 (.t 24),none⟩,⟨some 9,.al [.i .i64 0,.i .i64 0,.ns],none⟩,⟨none,.st 3 (.t 9) (.t 25),none⟩]]) (.seq (.reg [.seq [⟨some 26,.mv (.t 2),none⟩,⟨some 27,.ld true 3 (.t 8),none⟩,⟨some 28,.ld true 3 (.t 9),none⟩,⟨some 29,.ca (.t 26) [.t 27,.t 28],none⟩,⟨some 30,.un .not (.t 29),none⟩]]) (.cond (.t 30) (.seq (.reg [.seq [⟨some 6,.mv (.c (.b false)),none⟩]]) .ret) .skip))))) (.reg [.seq [⟨some 31,.bi .add (.t 17) (.c (.i .i64 1)),none⟩,⟨some 17,.mv (.t 31),none⟩]]))))
def slices_EqualFunc_Level.c : PFun := ⟨(.seq (.reg [.seq [⟨some 6,.mv (.c (.b false)),none⟩]]) (.seq (.seq (.reg [.seq [⟨some 10,.mv (.t 0),none⟩,⟨some 11,.ln .l (.t 10),none⟩,⟨some 12,.mv (.t 1),none⟩,⟨some 13,.ln .l (.t 12),none⟩,⟨some 14,.bi .neq (.t 11) (.t 13),none⟩]]) (.cond (.t 14) (.seq (.reg [.seq [⟨some 6,.mv (.c (.b false)),none⟩]]) .ret) .skip)) (.seq (.seq (.reg [.seq [⟨some 15,.mv (.t 0),none⟩,⟨some 16,.ln .l (.t 15),none⟩,⟨some 17,.mv (.c (.i .i64 0)),none⟩]]) (.block 0 (.loop slices_EqualFunc_Level.b1))) (.seq (.reg [.seq [⟨some 6,.mv (.c (.b true)),none⟩]]) .ret)))), [.t 6]⟩
def level_Same.c : PFun := ⟨(.seq (.reg [.seq [⟨some 2,.bx (.t 0),none⟩,⟨some 3,.bx (.t 1),none⟩,⟨some 4,.mv (.c (.b false)),none⟩]]) (.seq (.reg [.seq [⟨some 5,.fa 0 (.t 2),none⟩,⟨some 6,.ld false 1 (.t 5),none⟩,⟨some 7,.fa 0 (.t 3),none⟩,⟨some 8,.ld false 1 (.t 7),none⟩,⟨some 9,.bi .eql (.t 6) (.t 8),none⟩,⟨some 10,.mv (.t 9),none⟩,⟨some 11,.fa 1 (.t 2),some (10,true)⟩,⟨some 12,.ld false 1 (.t 11),some (10,true)⟩,⟨some 13,.fa 1 (.t 3),some (10,true)⟩,⟨some 14,.ld false 1 (.t 13),some (10,true)⟩,⟨some 15,.bi .eql (.t 12) (.t 14),some (10,true)⟩,⟨some 16,.pk (.t 10) (.t 15) (.c (.b false)),none⟩,⟨some 17,.mv (.t 16),none⟩,⟨some 18,.fa 2 (.t 2),some (17,true)⟩,⟨some 19,.ld false 1 (.t 18),some (17,true)⟩,⟨some 20,.fa 2 (.t 3),some (17,true)⟩,⟨some 21,.ld false 1 (.t 20),some (17,true)⟩,⟨some 22,.ca (.c (.fn (.func slices_EqualFunc_Level.n) [] [])) [.t 19,.t 21,.c (.fn (.func level_Same.n) [] [])],some (17,true)⟩,⟨some 23,.pk (.t 17) (.t 22) (.c (.b false)),none⟩,⟨some 4,.mv (.t 23),none⟩]]) .ret)), [.t 4]⟩
def slices_EqualFunc_Term.b1 : PCode := (.seq (.reg [.seq [⟨some 18,.bi .lss (.t 17) (.t 16),none⟩]]) (.seq (.cond (.t 18) .skip (.exit 0)) (.seq (.block 1 (.seq (.reg [.seq [⟨some 19,.mv (.t 17),none⟩,⟨some 20,.ia 4 (.t 15) (.t 17),none⟩,⟨some 21,.ld true 4 (.t 20),none⟩,⟨some 8,.al [.i .i64 0,.i .i64 0,.ns,.ns],none⟩,⟨some 7,.mv (.t 19),none⟩,⟨none,.st 4 (.t 8) (.t 21),none⟩]]) (.seq (.reg [.seq [⟨some 22,.mv (.t 1),none⟩,⟨some 23,.mv (.t 7),none⟩,⟨some 24,.ia 4 (.t 22) (.t 23),none⟩,⟨some 25,.ld true 4 (.t 24),none⟩,⟨some 9,.al [.i .i64 0,.i .i64 0,.ns,.ns],none⟩,⟨none,.st 4 (.t 9) (.t 25),none⟩]]) (.seq (.reg [.seq [⟨some 26,.mv (.t 2),none⟩,⟨some 27,.ld true 4 (.t 8),none⟩,⟨some 28,.ld true 4 (.t 9),none⟩,⟨some 29,.ca (.t 26) [.t 27,.t 28],none⟩,⟨some 30,.un .not (.t 29),none⟩]]) (.cond (.t 30) (.seq (.reg [.seq [⟨some 6,.mv (.c (.b false)),none⟩]]) .ret) .skip))))) (.reg [.seq [⟨some 31,.bi .add (.t 17) (.c (.i .i64 1)),none⟩,⟨some 17,.mv (.t 31),none⟩]]))))
def slices_EqualFunc_Term.c : PFun := ⟨(.seq (.reg [.seq [⟨some 6,.mv (.c (.b false)),none⟩]]) (.seq (.seq (.reg [.seq [⟨some 10,.mv (.t 0),none⟩,⟨some 11,.ln .l (.t 10),none⟩,⟨some 12,.mv (.t 1),none⟩,⟨some 13,.ln .l (.t 12),none⟩,⟨some 14,.bi .neq (.t 11) (.t 13),none⟩]]) (.cond (.t 14) (.seq (.reg [.seq [⟨some 6,.mv (.c (.b false)),none⟩]]) .ret) .skip)) (.seq (.seq (.reg [.seq [⟨some 15,.mv (.t 0),none⟩,⟨some 16,.ln .l (.t 15),none⟩,⟨some 17,.mv (.c (.i .i64 0)),none⟩]]) (.block 0 (.loop slices_EqualFunc_Term.b1))) (.seq (.reg [.seq [⟨some 6,.mv (.c (.b true)),none⟩]]) .ret)))), [.t 6]⟩
def slices_IndexFunc_Decl.b1 : PCode := (.seq (.reg [.seq [⟨some 9,.bi .lss (.t 8) (.t 7),none⟩]]) (.seq (.cond (.t 9) .skip (.exit 0)) (.seq (.block 1 (.seq (.reg [.seq [⟨some 10,.mv (.t 8),none⟩,⟨some 5,.mv (.t 10),none⟩]]) (.seq (.reg [.seq [⟨some 11,.mv (.t 1),none⟩,⟨some 12,.mv (.t 0),none⟩,⟨some 13,.mv (.t 5),none⟩,⟨some 14,.ia 11 (.t 12) (.t 13),none⟩,⟨some 15,.ld true 11 (.t 14),none⟩,⟨some 16,.ca (.t 11) [.t 15],none⟩]]) (.cond (.t 16) (.seq (.reg [.seq [⟨some 17,.mv (.t 5),none⟩,⟨some 4,.mv (.t 17),none⟩]]) .ret) .skip)))) (.reg [.seq [⟨some 18,.bi .add (.t 8) (.c (.i .i64 1)),none⟩,⟨some 8,.mv (.t 18),none⟩]]))))
def slices_IndexFunc_Decl.c : PFun := ⟨(.seq (.reg [.seq [⟨some 4,.mv (.c (.i .i64 0)),none⟩]]) (.seq (.seq (.reg [.seq [⟨some 6,.mv (.t 0),none⟩,⟨some 7,.ln .l (.t 6),none⟩,⟨some 8,.mv (.c (.i .i64 0)),none⟩]]) (.block 0 (.loop slices_IndexFunc_Decl.b1))) (.seq (.reg [.seq [⟨some 4,.mv (.c (.i .i64 (-1))),none⟩]]) .ret))), [.t 4]⟩
def slices_ContainsFunc_Con.c : PFun := ⟨(.seq (.reg [.seq [⟨some 4,.mv (.c (.b false)),none⟩]]) (.seq (.reg [.seq [⟨some 5,.mv (.t 0),none⟩,⟨some 6,.mv (.t 1),none⟩,⟨some 7,.ca (.c (.fn (.func slices_IndexFunc_Con.n) [] [])) [.t 5,.t 6],none⟩,⟨some 8,.bi .geq (.t 7) (.c (.i .i64 0)),none⟩,⟨some 4,.mv (.t 8),none⟩]]) .ret)), [.t 4]⟩
def under_Right_1.c : PFun := ⟨(.seq (.reg [.seq [⟨some 2,.bx (.t 0),none⟩,⟨some 3,.mv (.c (.b false)),none⟩]]) (.seq (.reg [.seq [⟨some 4,.fa 0 (.t 2),none⟩,⟨some 5,.ld true 3 (.t 4),none⟩,⟨some 6,.ld false 1 (.t 1),none⟩,⟨some 7,.ca (.c (.fn (.func level_Right.n) [] [])) [.t 5,.t 6,.c (.i .i64 0)],none⟩,⟨some 8,.un .not (.t 7),none⟩,⟨some 9,.mv (.t 8),none⟩,⟨some 10,.fa 3 (.t 2),some (9,false)⟩,⟨some 11,.ld true 3 (.t 10),some (9,false)⟩,⟨some 12,.ld false 1 (.t 1),some (9,false)⟩,⟨some 13,.ca (.c (.fn (.func level_Right.n) [] [])) [.t 11,.t 12,.c (.i .i64 0)],some (9,false)⟩,⟨some 14,.un .not (.t 13),some (9,false)⟩,⟨some 15,.pk (.t 9) (.c (.b true)) (.t 14),none⟩,⟨some 3,.mv (.t 15),none⟩]]) .ret)), [.t 3]⟩
def level_nodes.b1 : PCode := (.seq (.reg [.seq [⟨some 12,.bi .lss (.t 11) (.t 10),none⟩]]) (.seq (.cond (.t 12) .skip (.exit 0)) (.seq (.block 1 (.seq (.reg [.seq [⟨some 13,.ia 3 (.t 9) (.t 11),none⟩,⟨some 14,.ld true 3 (.t 13),none⟩,⟨some 7,.al [.i .i64 0,.i .i64 0,.ns],none⟩,⟨none,.st 3 (.t 7) (.t 14),none⟩]]) (.seq (.reg [.seq [⟨some 15,.mv (.t 5),none⟩,⟨some 16,.mv (.t 1),none⟩,⟨some 17,.bi .lss (.t 15) (.t 16),none⟩]]) (.cond (.t 17) (.reg [.seq [⟨some 18,.mv (.t 5),none⟩,⟨some 19,.ld true 3 (.t 7),none⟩,⟨some 20,.mv (.t 1),none⟩,⟨some 21,.mv (.t 5),none⟩,⟨some 22,.bi .sub (.t 20) (.t 21),none⟩,⟨some 23,.ca (.c (.fn (.func level_nodes.n) [] [])) [.t 19,.t 22],none⟩,⟨some 24,.bi .add (.t 18) (.t 23),none⟩,⟨some 5,.mv (.t 24),none⟩]]) .skip)))) (.reg [.seq [⟨some 25,.bi .add (.t 11) (.c (.i .i64 1)),none⟩,⟨some 11,.mv (.t 25),none⟩]]))))
def level_nodes.c : PFun := ⟨(.seq (.reg [.seq [⟨some 2,.bx (.t 0),none⟩,⟨some 4,.mv (.c (.i .i64 0)),none⟩]]) (.seq (.reg [.seq [⟨some 5,.mv (.c (.i .i64 1)),none⟩]]) (.seq (.seq (.reg [.seq [⟨some 8,.fa 2 (.t 2),none⟩,⟨some 9,.ld false 1 (.t 8),none⟩,⟨some 10,.ln .l (.t 9),none⟩,⟨some 11,.mv (.c (.i .i64 0)),none⟩]]) (.block 0 (.loop level_nodes.b1))) (.seq (.reg [.seq [⟨some 26,.mv (.t 5),none⟩,⟨some 4,.mv (.t 26),none⟩]]) .ret)))), [.t 4]⟩
def level_right.c : PFun := ⟨(.seq (.reg [.seq [⟨some 4,.bx (.t 0),none⟩,⟨some 5,.bx (.t 1),none⟩,⟨some 6,.bx (.t 2),none⟩,⟨some 7,.bx (.t 3),none⟩,⟨some 8,.mv (.c (.b false)),none⟩]]) (.seq (.reg [.any [⟨some 13,.ca (.c (.fn (.func level_kinds.n) [] [])) [],none⟩,⟨some 14,.fa 0 (.t 4),none⟩,⟨some 15,.ld false 1 (.t 14),none⟩,⟨some 16,.lk (.one .i) (.ag [.i .i64 0,.nf]) (.t 13) (.t 15) true,none⟩,⟨some 12,.mv (.t 16),none⟩,⟨some 17,.ex (.t 12) 0,none⟩,⟨some 18,.ex (.t 12) 1,none⟩,⟨some 9,.al [.i .i64 0,.nf],none⟩,⟨none,.st 2 (.t 9) (.t 17),none⟩] [(0,2),(0,7),(2,7),(3,7)],.seq [⟨some 10,.mv (.t 18),none⟩]]) (.seq (.reg [.seq [⟨some 19,.mf (.func level_right_1.n) [] [.t 5,.t 6,.t 7],none⟩,⟨some 11,.mv (.t 19),none⟩]]) (.seq (.reg [.seq [⟨some 20,.ld false 1 (.t 7),none⟩,⟨some 21,.bi .gtr (.t 20) (.c (.i .i64 0)),none⟩,⟨some 22,.mv (.t 21),none⟩,⟨some 23,.mv (.t 10),some (22,true)⟩,⟨some 24,.pk (.t 22) (.t 23) (.c (.b false)),none⟩,⟨some 25,.mv (.t 24),none⟩,⟨some 26,.fa 2 (.t 4),some (25,true)⟩,⟨some 27,.ld false 1 (.t 26),some (25,true)⟩,⟨some 28,.ln .l (.t 27),some (25,true)⟩,⟨some 29,.fa 0 (.t 9),some (25,true)⟩,⟨some 30,.ld false 1 (.t 29),some (25,true)⟩,⟨some 31,.bi .eql (.t 28) (.t 30),some (25,true)⟩,⟨some 32,.pk (.t 25) (.t 31) (.c (.b false)),none⟩,⟨some 33,.mv (.t 32),none⟩,⟨some 34,.ld true 3 (.t 4),some (33,true)⟩,⟨some 35,.ld false 1 (.t 5),some (33,true)⟩,⟨some 36,.ld false 1 (.t 6),some (33,true)⟩,⟨some 37,.ca (.c (.fn (.func level_named.n) [] [])) [.t 34,.t 35,.t 36],some (33,true)⟩,⟨some 38,.pk (.t 33) (.t 37) (.c (.b false)),none⟩,⟨some 39,.mv (.t 38),none⟩,⟨some 40,.fa 2 (.t 4),some (39,true)⟩,⟨some 41,.ld false 1 (.t 40),some (39,true)⟩,⟨some 42,.mv (.t 11),some (39,true)⟩,⟨some 43,.ca (.c (.fn (.func slices_ContainsFunc_Level.n) [] [])) [.t 41,.t 42],some (39,true)⟩,⟨some 44,.un .not (.t 43),some (39,true)⟩,⟨some 45,.pk (.t 39) (.t 44) (.c (.b false)),none⟩,⟨some 8,.mv (.t 45),none⟩]]) .ret)))), [.t 8]⟩
def slices_Collect_Clause.c : PFun := ⟨(.seq (.reg [.seq [⟨some 2,.mv (.c .ns),none⟩]]) (.seq (.reg [.seq [⟨some 3,.mv (.t 0),none⟩,⟨some 4,.ca (.c (.fn (.func slices_AppendSeq_Clause.n) [] [])) [.c .ns,.t 3],none⟩,⟨some 2,.mv (.t 4),none⟩]]) .ret)), [.t 2]⟩
def under_situation_clauses.c : PFun := ⟨(.seq (.reg [.seq [⟨some 1,.bx (.t 0),none⟩,⟨some 2,.mv (.c .nf),none⟩]]) (.seq (.reg [.seq [⟨some 3,.mf (.func under_situation_clauses_1.n) [] [.t 1],none⟩,⟨some 2,.mv (.t 3),none⟩]]) .ret)), [.t 2]⟩
def slices_IndexFunc_int.b1 : PCode := (.seq (.reg [.seq [⟨some 9,.bi .lss (.t 8) (.t 7),none⟩]]) (.seq (.cond (.t 9) .skip (.exit 0)) (.seq (.block 1 (.seq (.reg [.seq [⟨some 10,.mv (.t 8),none⟩,⟨some 5,.mv (.t 10),none⟩]]) (.seq (.reg [.seq [⟨some 11,.mv (.t 1),none⟩,⟨some 12,.mv (.t 0),none⟩,⟨some 13,.mv (.t 5),none⟩,⟨some 14,.ia 1 (.t 12) (.t 13),none⟩,⟨some 15,.ld false 1 (.t 14),none⟩,⟨some 16,.ca (.t 11) [.t 15],none⟩]]) (.cond (.t 16) (.seq (.reg [.seq [⟨some 17,.mv (.t 5),none⟩,⟨some 4,.mv (.t 17),none⟩]]) .ret) .skip)))) (.reg [.seq [⟨some 18,.bi .add (.t 8) (.c (.i .i64 1)),none⟩,⟨some 8,.mv (.t 18),none⟩]]))))
def slices_IndexFunc_int.c : PFun := ⟨(.seq (.reg [.seq [⟨some 4,.mv (.c (.i .i64 0)),none⟩]]) (.seq (.seq (.reg [.seq [⟨some 6,.mv (.t 0),none⟩,⟨some 7,.ln .l (.t 6),none⟩,⟨some 8,.mv (.c (.i .i64 0)),none⟩]]) (.block 0 (.loop slices_IndexFunc_int.b1))) (.seq (.reg [.seq [⟨some 4,.mv (.c (.i .i64 (-1))),none⟩]]) .ret))), [.t 4]⟩
def level_kinds.c : PFun := ⟨(.seq (.reg [.seq [⟨some 0,.mv (.c .nm),none⟩]]) (.seq (.reg [.seq [⟨some 1,.mm,none⟩,⟨some 2,.bd [.i .i64 0,.nf] [(0,1,.c (.i .i64 0)),(1,1,.c (.fn (.func level_kinds_1.n) [] []))],none⟩,⟨none,.mu (.one .i) (.t 1) (.c (.i .i64 1)) (.t 2),none⟩,⟨some 3,.bd [.i .i64 0,.nf] [(0,1,.c (.i .i64 1)),(1,1,.c (.fn (.func level_kinds_2.n) [] []))],none⟩,⟨none,.mu (.one .i) (.t 1) (.c (.i .i64 2)) (.t 3),none⟩,⟨some 4,.bd [.i .i64 0,.nf] [(0,1,.c (.i .i64 2)),(1,1,.c (.fn (.func level_kinds_3.n) [] []))],none⟩,⟨none,.mu (.one .i) (.t 1) (.c (.i .i64 3)) (.t 4),none⟩,⟨some 5,.bd [.i .i64 0,.nf] [(0,1,.c (.i .i64 2)),(1,1,.c (.fn (.func level_kinds_4.n) [] []))],none⟩,⟨none,.mu (.one .i) (.t 1) (.c (.i .i64 4)) (.t 5),none⟩,⟨some 6,.bd [.i .i64 0,.nf] [(0,1,.c (.i .i64 0)),(1,1,.c (.fn (.func level_kinds_5.n) [] []))],none⟩,⟨none,.mu (.one .i) (.t 1) (.c (.i .i64 5)) (.t 6),none⟩,⟨some 7,.bd [.i .i64 0,.nf] [(0,1,.c (.i .i64 0)),(1,1,.c (.fn (.func level_kinds_6.n) [] []))],none⟩,⟨none,.mu (.one .i) (.t 1) (.c (.i .i64 6)) (.t 7),none⟩,⟨some 8,.mv (.t 1),none⟩,⟨some 0,.mv (.t 8),none⟩]]) .ret)), [.t 0]⟩
def under_Possible.c : PFun := ⟨(.seq (.reg [.seq [⟨some 4,.mv (.c (.b false)),none⟩,⟨some 5,.mv (.c .ns),none⟩,⟨some 6,.mv (.c (.i .i64 0)),none⟩]]) (.seq (.seq (.reg [.seq [⟨some 9,.mv (.t 0),none⟩,⟨some 10,.mv (.t 1),none⟩,⟨some 11,.ca (.c (.fn (.func under_Right.n) [] [])) [.t 9,.t 10],none⟩,⟨some 12,.un .not (.t 11),none⟩]]) (.cond (.t 12) (.seq (.reg [.seq [⟨some 4,.mv (.c (.b false)),none⟩,⟨some 5,.mv (.c .ns),none⟩,⟨some 6,.mv (.c (.i .i64 1)),none⟩]]) .ret) .skip)) (.seq (.reg [.seq [⟨some 14,.mv (.t 0),none⟩,⟨some 15,.mv (.t 1),none⟩,⟨some 16,.ca (.c (.fn (.func under_first.n) [] [])) [.t 14,.t 15,.c (.fn (.func under_Possible_1.n) [] [])],none⟩,⟨some 13,.mv (.t 16),none⟩,⟨some 17,.ex (.t 13) 0,none⟩,⟨some 18,.ex (.t 13) 1,none⟩,⟨some 7,.mv (.t 17),none⟩,⟨some 8,.mv (.t 18),none⟩]]) (.seq (.reg [.seq [⟨some 19,.mv (.t 8),none⟩,⟨some 20,.mv (.t 7),none⟩,⟨some 4,.mv (.t 19),none⟩,⟨some 5,.mv (.t 20),none⟩,⟨some 6,.mv (.c (.i .i64 0)),none⟩]]) .ret)))), [.t 4,.t 5,.t 6]⟩
def slices_Concat_Con.b1 : PCode := (.seq (.reg [.seq [⟨some 12,.bi .lss (.t 11) (.t 10),none⟩]]) (.seq (.cond (.t 12) .skip (.exit 0)) (.seq (.block 1 (.seq (.reg [.seq [⟨some 13,.ia 1 (.t 9) (.t 11),none⟩,⟨some 14,.ld false 1 (.t 13),none⟩,⟨some 5,.mv (.t 14),none⟩]]) (.seq (.reg [.seq [⟨some 15,.mv (.t 3),none⟩,⟨some 16,.mv (.t 5),none⟩,⟨some 17,.ln .l (.t 16),none⟩,⟨some 18,.bi .add (.t 15) (.t 17),none⟩,⟨some 3,.mv (.t 18),none⟩]]) (.seq (.reg [.seq [⟨some 19,.mv (.t 3),none⟩,⟨some 20,.bi .lss (.t 19) (.c (.i .i64 0)),none⟩]]) (.cond (.t 20) (.reg [.seq [⟨some 21,.mi 9 (.c (.s (bs [108,101,110,32,111,117,116,32,111,102,32,114,97,110,103,101]))),none⟩,⟨none,.pa (.t 21),none⟩]]) .skip))))) (.reg [.seq [⟨some 22,.bi .add (.t 11) (.c (.i .i64 1)),none⟩,⟨some 11,.mv (.t 22),none⟩]]))))
def slices_Concat_Con.b2 : PCode := (.seq (.reg [.seq [⟨some 28,.bi .lss (.t 27) (.t 26),none⟩]]) (.seq (.cond (.t 28) .skip (.exit 2)) (.seq (.block 3 (.seq (.reg [.seq [⟨some 29,.ia 1 (.t 25) (.t 27),none⟩,⟨some 30,.ld false 1 (.t 29),none⟩,⟨some 8,.mv (.t 30),none⟩]]) (.reg [.seq [⟨some 31,.mv (.t 6),none⟩,⟨some 32,.mv (.t 8),none⟩,⟨some 33,.ap 6 (.t 31) (.t 32),none⟩,⟨some 6,.mv (.t 33),none⟩]]))) (.reg [.seq [⟨some 34,.bi .add (.t 27) (.c (.i .i64 1)),none⟩,⟨some 27,.mv (.t 34),none⟩]]))))
def slices_Concat_Con.c : PFun := ⟨(.seq (.reg [.seq [⟨some 2,.mv (.c .ns),none⟩]]) (.seq (.reg [.seq [⟨some 3,.mv (.c (.i .i64 0)),none⟩]]) (.seq (.seq (.reg [.seq [⟨some 9,.mv (.t 0),none⟩,⟨some 10,.ln .l (.t 9),none⟩,⟨some 11,.mv (.c (.i .i64 0)),none⟩]]) (.block 0 (.loop slices_Concat_Con.b1))) (.seq (.reg [.seq [⟨some 23,.mv (.t 3),none⟩,⟨some 24,.ca (.c (.fn (.func slices_Grow_Con.n) [] [])) [.c .ns,.t 23],none⟩,⟨some 6,.mv (.t 24),none⟩]]) (.seq (.seq (.reg [.seq [⟨some 25,.mv (.t 0),none⟩,⟨some 26,.ln .l (.t 25),none⟩,⟨some 27,.mv (.c (.i .i64 0)),none⟩]]) (.block 2 (.loop slices_Concat_Con.b2))) (.seq (.reg [.seq [⟨some 35,.mv (.t 6),none⟩,⟨some 2,.mv (.t 35),none⟩]]) .ret)))))), [.t 2]⟩
def slices_EqualFunc_Con.b1 : PCode := (.seq (.reg [.seq [⟨some 18,.bi .lss (.t 17) (.t 16),none⟩]]) (.seq (.cond (.t 18) .skip (.exit 0)) (.seq (.block 1 (.seq (.reg [.seq [⟨some 19,.mv (.t 17),none⟩,⟨some 20,.ia 6 (.t 15) (.t 17),none⟩,⟨some 21,.ld true 6 (.t 20),none⟩,⟨some 8,.al [.i .i64 0,.i .i64 0,.ns,.i .i64 0,.i .i64 0,.ns],none⟩,⟨some 7,.mv (.t 19),none⟩,⟨none,.st 6 (.t 8) (.t 21),none⟩]]) (.seq (.reg [.seq [⟨some 22,.mv (.t 1),none⟩,⟨some 23,.mv (.t 7),none⟩,⟨some 24,.ia 6 (.t 22) (.t 23),none⟩,⟨some 25,.ld true 6 (.t 24),none⟩,⟨some 9,.al [.i .i64 0,.i .i64 0,.ns,.i .i64 0,.i .i64 0,.ns],none⟩,⟨none,.st 6 (.t 9) (.t 25),none⟩]]) (.seq (.reg [.seq [⟨some 26,.mv (.t 2),none⟩,⟨some 27,.ld true 6 (.t 8),none⟩,⟨some 28,.ld true 6 (.t 9),none⟩,⟨some 29,.ca (.t 26) [.t 27,.t 28],none⟩,⟨some 30,.un .not (.t 29),none⟩]]) (.cond (.t 30) (.seq (.reg [.seq [⟨some 6,.mv (.c (.b false)),none⟩]]) .ret) .skip))))) (.reg [.seq [⟨some 31,.bi .add (.t 17) (.c (.i .i64 1)),none⟩,⟨some 17,.mv (.t 31),none⟩]]))))
def slices_EqualFunc_Con.c : PFun := ⟨(.seq (.reg [.seq [⟨some 6,.mv (.c (.b false)),none⟩]]) (.seq (.seq (.reg [.seq [⟨some 10,.mv (.t 0),none⟩,⟨some 11,.ln .l (.t 10),none⟩,⟨some 12,.mv (.t 1),none⟩,⟨some 13,.ln .l (.t 12),none⟩,⟨some 14,.bi .neq (.t 11) (.t 13),none⟩]]) (.cond (.t 14) (.seq (.reg [.seq [⟨some 6,.mv (.c (.b false)),none⟩]]) .ret) .skip)) (.seq (.seq (.reg [.seq [⟨some 15,.mv (.t 0),none⟩,⟨some 16,.ln .l (.t 15),none⟩,⟨some 17,.mv (.c (.i .i64 0)),none⟩]]) (.block 0 (.loop slices_EqualFunc_Con.b1))) (.seq (.reg [.seq [⟨some 6,.mv (.c (.b true)),none⟩]]) .ret)))), [.t 6]⟩
def horn_Right_1.c : PFun := ⟨(.seq (.reg [.seq [⟨some 1,.bx (.t 0),none⟩,⟨some 2,.mv (.c (.b false)),none⟩]]) (.seq (.reg [.seq [⟨some 3,.fa 0 (.t 1),none⟩,⟨some 4,.ld false 1 (.t 3),none⟩,⟨some 5,.ln .l (.t 4),none⟩,⟨some 6,.bi .lss (.t 5) (.c (.i .i64 1)),none⟩,⟨some 7,.mv (.t 6),none⟩,⟨some 8,.fa 0 (.t 1),some (7,false)⟩,⟨some 9,.ld false 1 (.t 8),some (7,false)⟩,⟨some 10,.ln .l (.t 9),some (7,false)⟩,⟨some 11,.bi .gtr (.t 10) (.c (.i .i64 6)),some (7,false)⟩,⟨some 12,.pk (.t 7) (.c (.b true)) (.t 11),none⟩,⟨some 2,.mv (.t 12),none⟩]]) .ret)), [.t 2]⟩
def slices_ContainsFunc_Clause.c : PFun := ⟨(.seq (.reg [.seq [⟨some 4,.mv (.c (.b false)),none⟩]]) (.seq (.reg [.seq [⟨some 5,.mv (.t 0),none⟩,⟨some 6,.mv (.t 1),none⟩,⟨some 7,.ca (.c (.fn (.func slices_IndexFunc_Clause.n) [] [])) [.t 5,.t 6],none⟩,⟨some 8,.bi .geq (.t 7) (.c (.i .i64 0)),none⟩,⟨some 4,.mv (.t 8),none⟩]]) .ret)), [.t 4]⟩
def horn_atoms.c : PFun := ⟨(.seq (.reg [.seq [⟨some 1,.bx (.t 0),none⟩,⟨some 2,.mv (.c .nf),none⟩]]) (.seq (.reg [.seq [⟨some 3,.mf (.func horn_atoms_1.n) [] [.t 1],none⟩,⟨some 2,.mv (.t 3),none⟩]]) .ret)), [.t 2]⟩
def solve_of.c : PFun := ⟨(.seq (.reg [.seq [⟨some 2,.al [.i .i64 0,.i .i64 0,.i .i64 0,.i .i64 0,.i .i64 0,.i .i64 0,.i .i64 0,.i .i64 0,.i .i64 0,.i .i64 0,.i .i64 0,.i .i64 0,.i .i64 0,.i .i64 0,.i .i64 0,.i .i64 0],none⟩]]) (.seq (.reg [.seq [⟨some 3,.sa 16 1 (.t 2) none none,none⟩,⟨some 4,.mv (.t 0),none⟩,⟨some 5,.cp 1 (.t 3) (.t 4),none⟩]]) (.seq (.reg [.seq [⟨some 6,.ld true 16 (.t 2),none⟩,⟨none,.st 16 (.t 2) (.t 6),none⟩]]) .ret))), [.c 2 true 16]⟩
def solve_model_rounds.c : PFun := ⟨(.seq (.reg [.seq [⟨some 2,.bx (.t 0),none⟩,⟨some 3,.bx (.t 1),none⟩,⟨some 4,.mv (.c .nf),none⟩]]) (.seq (.reg [.seq [⟨some 5,.mf (.func solve_model_rounds_1.n) [] [.t 2,.t 3],none⟩,⟨some 4,.mv (.t 5),none⟩]]) .ret)), [.t 4]⟩
def slices_Max_int.b1 : PCode := (.seq (.seq (.reg [.seq [⟨some 12,.mv (.t 4),none⟩,⟨some 13,.mv (.t 0),none⟩,⟨some 14,.ln .l (.t 13),none⟩,⟨some 15,.bi .lss (.t 12) (.t 14),none⟩]]) (.cond (.t 15) .skip (.exit 0))) (.seq (.block 1 (.reg [.seq [⟨some 18,.mv (.t 3),none⟩,⟨some 19,.mv (.t 0),none⟩,⟨some 20,.mv (.t 4),none⟩,⟨some 21,.ia 1 (.t 19) (.t 20),none⟩,⟨some 22,.ld false 1 (.t 21),none⟩,⟨some 23,.mx [.t 18,.t 22],none⟩,⟨some 3,.mv (.t 23),none⟩]])) (.reg [.seq [⟨some 16,.mv (.t 4),none⟩,⟨some 17,.bi .add (.t 16) (.c (.i .i64 1)),none⟩,⟨some 4,.mv (.t 17),none⟩]])))
def slices_Max_int.c : PFun := ⟨(.seq (.reg [.seq [⟨some 2,.mv (.c (.i .i64 0)),none⟩]]) (.seq (.seq (.reg [.seq [⟨some 5,.mv (.t 0),none⟩,⟨some 6,.ln .l (.t 5),none⟩,⟨some 7,.bi .lss (.t 6) (.c (.i .i64 1)),none⟩]]) (.cond (.t 7) (.reg [.seq [⟨some 8,.mi 9 (.c (.s (bs [115,108,105,99,101,115,46,77,97,120,58,32,101,109,112,116,121,32,108,105,115,116]))),none⟩,⟨none,.pa (.t 8),none⟩]]) .skip)) (.seq (.reg [.seq [⟨some 9,.mv (.t 0),none⟩,⟨some 10,.ia 1 (.t 9) (.c (.i .i64 0)),none⟩,⟨some 11,.ld false 1 (.t 10),none⟩,⟨some 3,.mv (.t 11),none⟩]]) (.seq (.seq (.reg [.seq [⟨some 4,.mv (.c (.i .i64 1)),none⟩]]) (.block 0 (.loop slices_Max_int.b1))) (.seq (.reg [.seq [⟨some 24,.mv (.t 3),none⟩,⟨some 2,.mv (.t 24),none⟩]]) .ret))))), [.t 2]⟩
def horn_Most.a1 : PCode := (.seq (.reg [.seq [⟨some 6,.mv (.t 14),none⟩]]) (.reg [.seq [⟨some 7,.al [.i .i64 0,.i .i64 0],none⟩,⟨none,.st 2 (.t 7) (.t 15),none⟩]]))
def horn_Most.b2 : PCode := (.block 1 (.reg [.any [⟨some 16,.ld false 1 (.t 4),none⟩,⟨some 17,.ld false 1 (.t 3),none⟩,⟨some 18,.mv (.t 6),none⟩,⟨some 19,.ia 3 (.t 17) (.t 18),none⟩,⟨some 20,.fa 1 (.t 19),none⟩,⟨some 21,.fa 1 (.t 20),none⟩,⟨some 22,.ld false 1 (.t 21),none⟩,⟨some 23,.fa 1 (.t 7),none⟩,⟨some 24,.ld false 1 (.t 23),none⟩,⟨some 25,.bi .sub (.t 22) (.t 24),none⟩] [],.seq [⟨some 26,.mx [.t 16,.t 25],none⟩],.seq [⟨none,.st 1 (.t 4) (.t 26),none⟩]]))
def horn_Most.c : PFun := ⟨(.seq (.reg [.seq [⟨some 3,.bx (.t 1),none⟩,⟨some 4,.al [.i .i64 0],none⟩,⟨some 5,.mv (.c (.i .i64 0)),none⟩]]) (.seq (.seq (.reg [.seq [⟨some 8,.mv (.t 0),none⟩,⟨some 9,.ld false 1 (.t 3),none⟩,⟨some 10,.ca (.c (.fn (.func horn_Right.n) [] [])) [.t 8,.t 9],none⟩,⟨some 11,.un .not (.t 10),none⟩]]) (.cond (.t 11) (.seq (.reg [.seq [⟨none,.st 1 (.t 4) (.c (.i .i64 0)),none⟩,⟨some 5,.mv (.c (.i .i64 1)),none⟩]]) .ret) .skip)) (.seq (.seq (.reg [.seq [⟨some 12,.ld false 1 (.t 3),none⟩,⟨some 13,.ca (.c (.fn (.func horn_atoms.n) [] [])) [.t 12],none⟩]]) (.block 0 (.rf (.t 13) [14,15] horn_Most.a1 horn_Most.b2))) (.seq (.reg [.seq [⟨some 27,.ld false 1 (.t 4),none⟩,⟨none,.st 1 (.t 4) (.t 27),none⟩,⟨some 5,.mv (.c (.i .i64 0)),none⟩]]) .ret)))), [.c 4 false 1,.t 5]⟩
def leq_All_1.b1 : PCode := (.seq (.reg [.seq [⟨some 16,.bi .lss (.t 15) (.t 14),none⟩]]) (.seq (.cond (.t 16) .skip (.exit 2)) (.seq (.block 3 (.seq (.reg [.seq [⟨some 17,.mv (.t 15),none⟩,⟨some 5,.mv (.t 17),none⟩]]) (.reg [.seq [⟨some 18,.mv (.t 4),none⟩,⟨some 19,.mv (.t 5),none⟩,⟨some 20,.mv (.t 3),none⟩,⟨some 21,.mv (.t 5),none⟩,⟨some 22,.bi .shr (.t 20) (.t 21),none⟩,⟨some 23,.bi .and (.t 22) (.c (.i .u64 1)),none⟩,⟨some 24,.bi .neq (.t 23) (.c (.i .u64 0)),none⟩,⟨some 25,.ia 1 (.t 18) (.t 19),none⟩,⟨none,.st 1 (.t 25) (.t 24),none⟩]]))) (.reg [.seq [⟨some 26,.bi .add (.t 15) (.c (.i .i64 1)),none⟩,⟨some 15,.mv (.t 26),none⟩]]))))
def leq_All_1.b2 : PCode := (.seq (.reg [.seq [⟨some 9,.bi .lss (.t 8) (.t 7),none⟩]]) (.seq (.cond (.t 9) .skip (.exit 0)) (.seq (.block 1 (.seq (.reg [.seq [⟨some 10,.mv (.t 8),none⟩,⟨some 3,.mv (.t 10),none⟩]]) (.seq (.reg [.seq [⟨some 11,.ld false 1 (.t 1),none⟩,⟨some 12,.mk 1 [.b false] (.t 11) (.t 11),none⟩,⟨some 4,.mv (.t 12),none⟩]]) (.seq (.seq (.reg [.seq [⟨some 13,.mv (.t 4),none⟩,⟨some 14,.ln .l (.t 13),none⟩,⟨some 15,.mv (.c (.i .i64 0)),none⟩]]) (.block 2 (.loop leq_All_1.b1))) (.seq (.reg [.seq [⟨some 27,.mv (.t 0),none⟩,⟨some 28,.mv (.t 4),none⟩,⟨some 29,.ca (.t 27) [.t 28],none⟩,⟨some 30,.un .not (.t 29),none⟩]]) (.cond (.t 30) .ret .skip)))))) (.reg [.seq [⟨some 31,.bi .add (.t 8) (.c (.i .u64 1)),none⟩,⟨some 8,.mv (.t 31),none⟩]]))))
def leq_All_1.c : PFun := ⟨(.seq (.reg [.seq [⟨some 6,.ld false 1 (.t 1),none⟩,⟨some 7,.bi .shl (.c (.i .u64 1)) (.t 6),none⟩,⟨some 8,.mv (.c (.i .u64 0)),none⟩]]) (.block 0 (.loop leq_All_1.b2))), []⟩
def flat_of.c : PFun := ⟨(.seq (.reg [.seq [⟨some 2,.bx (.t 0),none⟩,⟨some 4,.al [.i .i64 0,.ns],none⟩]]) (.seq (.reg [.seq [⟨some 7,.mv (.t 1),none⟩,⟨some 8,.ln .l (.t 7),none⟩,⟨some 9,.ca (.c (.fn (.func flat_plain.n) [] [])) [.c (.i .i64 0),.t 8],none⟩,⟨some 5,.al [.i .i64 0,.ns],none⟩,⟨none,.st 2 (.t 5) (.t 9),none⟩]]) (.seq (.seq (.reg [.seq [⟨some 10,.fa 0 (.t 2),none⟩,⟨some 11,.ld false 1 (.t 10),none⟩]]) (.block 0 (.seq (.block 4 (.seq (.block 3 (.seq (.block 2 (.seq (.block 1 (.seq (.seq (.seq (.reg [.seq [⟨some 13,.bi .eql (.t 11) (.c (.i .i64 5)),none⟩,⟨some 12,.mv (.t 13),none⟩]]) (.cond (.t 12) (.exit 1) .skip)) (.seq (.seq (.reg [.seq [⟨some 15,.bi .eql (.t 11) (.c (.i .i64 2)),none⟩,⟨some 14,.mv (.t 15),none⟩]]) (.cond (.t 14) (.exit 2) .skip)) (.seq (.seq (.reg [.seq [⟨some 17,.bi .eql (.t 11) (.c (.i .i64 4)),none⟩,⟨some 16,.mv (.t 17),none⟩]]) (.cond (.t 16) (.exit 3) .skip)) (.seq (.reg [.seq [⟨some 19,.bi .eql (.t 11) (.c (.i .i64 3)),none⟩,⟨some 18,.mv (.t 19),none⟩]]) (.cond (.t 18) (.exit 4) .skip))))) (.exit 0))) (.seq (.seq (.reg [.seq [⟨some 20,.mv (.t 1),none⟩,⟨some 21,.fa 1 (.t 2),none⟩,⟨some 22,.ld false 1 (.t 21),none⟩,⟨some 23,.ia 1 (.t 20) (.t 22),none⟩,⟨some 24,.ld false 1 (.t 23),none⟩,⟨some 25,.un .not (.t 24),none⟩]]) (.cond (.t 25) (.reg [.seq [⟨some 26,.fa 1 (.t 5),none⟩,⟨some 27,.ld false 1 (.t 26),none⟩,⟨some 28,.fa 1 (.t 2),none⟩,⟨some 29,.ld false 1 (.t 28),none⟩,⟨some 30,.ia 1 (.t 27) (.t 29),none⟩,⟨none,.st 1 (.t 30) (.c (.i .i64 0)),none⟩]]) .skip)) (.exit 0)))) (.seq (.seq (.reg [.seq [⟨some 31,.fa 2 (.t 2),none⟩,⟨some 32,.ld false 1 (.t 31),none⟩,⟨some 33,.ia 3 (.t 32) (.c (.i .i64 0)),none⟩,⟨some 34,.ld true 3 (.t 33),none⟩,⟨some 35,.mv (.t 1),none⟩,⟨some 36,.ca (.c (.fn (.func flat_of.n) [] [])) [.t 34,.t 35],none⟩,⟨some 37,.ca (.c (.fn (.func flat_succ.n) [] [])) [.t 36],none⟩,⟨none,.st 2 (.t 4) (.t 37),none⟩]]) .ret) (.exit 0)))) (.seq (.reg [.seq [⟨some 38,.fa 2 (.t 2),none⟩,⟨some 39,.ld false 1 (.t 38),none⟩,⟨some 40,.ia 3 (.t 39) (.c (.i .i64 1)),none⟩,⟨some 41,.ld true 3 (.t 40),none⟩,⟨some 42,.mv (.t 1),none⟩,⟨some 43,.ca (.c (.fn (.func flat_of.n) [] [])) [.t 41,.t 42],none⟩,⟨some 6,.al [.i .i64 0,.ns],none⟩,⟨none,.st 2 (.t 6) (.t 43),none⟩]]) (.seq (.reg [.seq [⟨some 44,.fa 0 (.t 6),none⟩,⟨some 45,.ld false 1 (.t 44),none⟩,⟨some 46,.bi .eql (.t 45) (.c (.i .i64 0)),none⟩,⟨some 47,.mv (.t 46),none⟩,⟨some 48,.ld true 2 (.t 6),some (47,true)⟩,⟨some 49,.ca (.c (.fn (.func flat_Top.n) [] [])) [.t 48],some (47,true)⟩,⟨some 50,.bi .eql (.t 49) (.c (.i .i64 (-1))),some (47,true)⟩,⟨some 51,.pk (.t 47) (.t 50) (.c (.b false)),none⟩]]) (.cond (.t 51) (.seq (.reg [.seq [⟨some 52,.ld true 2 (.t 6),none⟩,⟨none,.st 2 (.t 4) (.t 52),none⟩]]) .ret) .skip))))) (.seq (.seq (.reg [.any [⟨some 53,.fa 2 (.t 2),none⟩,⟨some 54,.ld false 1 (.t 53),none⟩,⟨some 55,.ia 3 (.t 54) (.c (.i .i64 0)),none⟩,⟨some 56,.ld true 3 (.t 55),none⟩,⟨some 57,.mv (.t 1),none⟩,⟨some 58,.ca (.c (.fn (.func flat_of.n) [] [])) [.t 56,.t 57],none⟩,⟨some 59,.fa 2 (.t 2),none⟩,⟨some 60,.ld false 1 (.t 59),none⟩,⟨some 61,.ia 3 (.t 60) (.c (.i .i64 1)),none⟩,⟨some 62,.ld true 3 (.t 61),none⟩,⟨some 63,.mv (.t 1),none⟩] [(5,7),(5,9)],.seq [⟨some 64,.ca (.c (.fn (.func flat_of.n) [] [])) [.t 62,.t 63],none⟩],.seq [⟨some 65,.bs 2 1 [.i .i64 0,.ns] [(0,2,.t 64)],none⟩],.seq [⟨some 66,.ca (.c (.fn (.func flat_join.n) [] [])) [.t 58,.t 65],none⟩],.seq [⟨none,.st 2 (.t 4) (.t 66),none⟩]]) .ret) (.exit 0))))) (.seq (.reg [.seq [⟨some 67,.ld true 2 (.t 5),none⟩,⟨none,.st 2 (.t 4) (.t 67),none⟩]]) .ret)))), [.c 4 true 2]⟩
def flat_Top.c : PFun := ⟨(.seq (.reg [.seq [⟨some 1,.bx (.t 0),none⟩,⟨some 2,.mv (.c (.i .i64 0)),none⟩]]) (.seq (.reg [.seq [⟨some 3,.bs 1 1 [.i .i64 0] [(0,1,.c (.i .i64 (-1)))],none⟩,⟨some 4,.fa 1 (.t 1),none⟩,⟨some 5,.ld false 1 (.t 4),none⟩,⟨some 6,.ap 1 (.t 3) (.t 5),none⟩,⟨some 7,.ca (.c (.fn (.func slices_Max_int.n) [] [])) [.t 6],none⟩,⟨some 2,.mv (.t 7),none⟩]]) .ret)), [.t 2]⟩
def flat_Right.c : PFun := ⟨(.seq (.reg [.seq [⟨some 1,.bx (.t 0),none⟩,⟨some 2,.mv (.c (.b false)),none⟩]]) (.seq (.reg [.seq [⟨some 3,.mv (.c (.fn (.func flat_Right_1.n) [] [])),none⟩]]) (.seq (.seq (.reg [.seq [⟨some 5,.fa 1 (.t 1),none⟩,⟨some 6,.ld false 1 (.t 5),none⟩,⟨some 7,.ln .l (.t 6),none⟩,⟨some 8,.bi .gtr (.t 7) (.c (.i .i64 5)),none⟩,⟨some 9,.mv (.t 8),none⟩,⟨some 10,.fa 0 (.t 1),some (9,false)⟩,⟨some 11,.ld false 1 (.t 10),some (9,false)⟩,⟨some 12,.bi .lss (.t 11) (.c (.i .i64 0)),some (9,false)⟩,⟨some 13,.pk (.t 9) (.c (.b true)) (.t 12),none⟩,⟨some 14,.mv (.t 13),none⟩,⟨some 15,.fa 0 (.t 1),some (14,false)⟩,⟨some 16,.ld false 1 (.t 15),some (14,false)⟩,⟨some 17,.bi .gtr (.t 16) (.c (.i .i64 1000)),some (14,false)⟩,⟨some 18,.pk (.t 14) (.c (.b true)) (.t 17),none⟩,⟨some 19,.mv (.t 18),none⟩,⟨some 20,.fa 1 (.t 1),some (19,false)⟩,⟨some 21,.ld false 1 (.t 20),some (19,false)⟩,⟨some 22,.mv (.t 3),some (19,false)⟩,⟨some 23,.ca (.c (.fn (.func slices_ContainsFunc_int.n) [] [])) [.t 21,.t 22],some (19,false)⟩,⟨some 24,.pk (.t 19) (.c (.b true)) (.t 23),none⟩]]) (.cond (.t 24) (.seq (.reg [.seq [⟨some 2,.mv (.c (.b false)),none⟩]]) .ret) .skip)) (.seq (.reg [.seq [⟨some 25,.ld true 2 (.t 1),none⟩,⟨some 26,.ca (.c (.fn (.func flat_Top.n) [] [])) [.t 25],none⟩,⟨some 4,.mv (.t 26),none⟩]]) (.seq (.reg [.seq [⟨some 27,.mv (.t 4),none⟩,⟨some 28,.bi .eql (.t 27) (.c (.i .i64 (-1))),none⟩,⟨some 29,.mv (.t 28),none⟩,⟨some 30,.fa 0 (.t 1),some (29,false)⟩,⟨some 31,.ld false 1 (.t 30),some (29,false)⟩,⟨some 32,.bi .eql (.t 31) (.c (.i .i64 0)),some (29,false)⟩,⟨some 33,.pk (.t 29) (.c (.b true)) (.t 32),none⟩,⟨some 34,.mv (.t 33),none⟩,⟨some 35,.fa 0 (.t 1),some (34,false)⟩,⟨some 36,.ld false 1 (.t 35),some (34,false)⟩,⟨some 37,.mv (.t 4),some (34,false)⟩,⟨some 38,.bi .add (.t 37) (.c (.i .i64 1)),some (34,false)⟩,⟨some 39,.bi .gtr (.t 36) (.t 38),some (34,false)⟩,⟨some 40,.pk (.t 34) (.c (.b true)) (.t 39),none⟩,⟨some 2,.mv (.t 40),none⟩]]) .ret))))), [.t 2]⟩
def slices_IndexFunc_Con.b1 : PCode := (.seq (.reg [.seq [⟨some 9,.bi .lss (.t 8) (.t 7),none⟩]]) (.seq (.cond (.t 9) .skip (.exit 0)) (.seq (.block 1 (.seq (.reg [.seq [⟨some 10,.mv (.t 8),none⟩,⟨some 5,.mv (.t 10),none⟩]]) (.seq (.reg [.seq [⟨some 11,.mv (.t 1),none⟩,⟨some 12,.mv (.t 0),none⟩,⟨some 13,.mv (.t 5),none⟩,⟨some 14,.ia 6 (.t 12) (.t 13),none⟩,⟨some 15,.ld true 6 (.t 14),none⟩,⟨some 16,.ca (.t 11) [.t 15],none⟩]]) (.cond (.t 16) (.seq (.reg [.seq [⟨some 17,.mv (.t 5),none⟩,⟨some 4,.mv (.t 17),none⟩]]) .ret) .skip)))) (.reg [.seq [⟨some 18,.bi .add (.t 8) (.c (.i .i64 1)),none⟩,⟨some 8,.mv (.t 18),none⟩]]))))
def slices_IndexFunc_Con.c : PFun := ⟨(.seq (.reg [.seq [⟨some 4,.mv (.c (.i .i64 0)),none⟩]]) (.seq (.seq (.reg [.seq [⟨some 6,.mv (.t 0),none⟩,⟨some 7,.ln .l (.t 6),none⟩,⟨some 8,.mv (.c (.i .i64 0)),none⟩]]) (.block 0 (.loop slices_IndexFunc_Con.b1))) (.seq (.reg [.seq [⟨some 4,.mv (.c (.i .i64 (-1))),none⟩]]) .ret))), [.t 4]⟩
def level_right_1.c : PFun := ⟨(.seq (.reg [.seq [⟨some 4,.bx (.t 0),none⟩,⟨some 5,.mv (.c (.b false)),none⟩]]) (.seq (.reg [.seq [⟨some 6,.ld true 3 (.t 4),none⟩,⟨some 7,.ld false 1 (.t 1),none⟩,⟨some 8,.ld false 1 (.t 2),none⟩,⟨some 9,.ld false 1 (.t 3),none⟩,⟨some 10,.bi .sub (.t 9) (.c (.i .i64 1)),none⟩,⟨some 11,.ca (.c (.fn (.func level_right.n) [] [])) [.t 6,.t 7,.t 8,.t 10],none⟩,⟨some 12,.un .not (.t 11),none⟩,⟨some 5,.mv (.t 12),none⟩]]) .ret)), [.t 5]⟩
def level_named.c : PFun := ⟨(.seq (.reg [.seq [⟨some 3,.bx (.t 0),none⟩,⟨some 6,.mv (.c (.b false)),none⟩]]) (.seq (.seq (.reg [.seq [⟨some 7,.fa 0 (.t 3),none⟩,⟨some 8,.ld false 1 (.t 7),none⟩]]) (.block 0 (.seq (.reg [.seq [⟨some 10,.bi .eql (.t 8) (.c (.i .i64 5)),none⟩,⟨some 9,.mv (.t 10),none⟩]]) (.cond (.t 9) (.seq (.reg [.seq [⟨some 11,.fa 1 (.t 3),none⟩,⟨some 12,.ld false 1 (.t 11),none⟩,⟨some 13,.bi .geq (.t 12) (.c (.i .i64 0)),none⟩,⟨some 14,.mv (.t 13),none⟩,⟨some 15,.fa 1 (.t 3),some (14,true)⟩,⟨some 16,.ld false 1 (.t 15),some (14,true)⟩,⟨some 17,.mv (.t 1),some (14,true)⟩,⟨some 18,.bi .lss (.t 16) (.t 17),some (14,true)⟩,⟨some 19,.pk (.t 14) (.t 18) (.c (.b false)),none⟩,⟨some 6,.mv (.t 19),none⟩]]) .ret) (.seq (.reg [.seq [⟨some 21,.bi .eql (.t 8) (.c (.i .i64 6)),none⟩,⟨some 20,.mv (.t 21),none⟩]]) (.cond (.t 20) (.seq (.reg [.seq [⟨some 22,.fa 1 (.t 3),none⟩,⟨some 23,.ld false 1 (.t 22),none⟩,⟨some 24,.bi .geq (.t 23) (.c (.i .i64 0)),none⟩,⟨some 25,.mv (.t 24),none⟩,⟨some 26,.fa 1 (.t 3),some (25,true)⟩,⟨some 27,.ld false 1 (.t 26),some (25,true)⟩,⟨some 28,.mv (.t 2),some (25,true)⟩,⟨some 29,.bi .lss (.t 27) (.t 28),some (25,true)⟩,⟨some 30,.pk (.t 25) (.t 29) (.c (.b false)),none⟩,⟨some 6,.mv (.t 30),none⟩]]) .ret) .skip)))))) (.seq (.reg [.seq [⟨some 31,.fa 1 (.t 3),none⟩,⟨some 32,.ld false 1 (.t 31),none⟩,⟨some 33,.bi .eql (.t 32) (.c (.i .i64 0)),none⟩,⟨some 6,.mv (.t 33),none⟩]]) .ret))), [.t 6]⟩
def slices_ContainsFunc_Level.c : PFun := ⟨(.seq (.reg [.seq [⟨some 4,.mv (.c (.b false)),none⟩]]) (.seq (.reg [.seq [⟨some 5,.mv (.t 0),none⟩,⟨some 6,.mv (.t 1),none⟩,⟨some 7,.ca (.c (.fn (.func slices_IndexFunc_Level.n) [] [])) [.t 5,.t 6],none⟩,⟨some 8,.bi .geq (.t 7) (.c (.i .i64 0)),none⟩,⟨some 4,.mv (.t 8),none⟩]]) .ret)), [.t 4]⟩
def slices_AppendSeq_Clause.a1 : PCode := (.reg [.seq [⟨some 5,.al [.ns,.i .i64 0,.i .i64 0],none⟩,⟨none,.st 3 (.t 5) (.t 7),none⟩]])
def slices_AppendSeq_Clause.b2 : PCode := (.block 1 (.reg [.seq [⟨some 8,.ld false 1 (.t 2),none⟩,⟨some 9,.ld true 3 (.t 5),none⟩,⟨some 10,.bs 3 1 [.ns,.i .i64 0,.i .i64 0] [(0,3,.t 9)],none⟩,⟨some 11,.ap 3 (.t 8) (.t 10),none⟩,⟨none,.st 1 (.t 2) (.t 11),none⟩]]))
def slices_AppendSeq_Clause.c : PFun := ⟨(.seq (.reg [.seq [⟨some 2,.bx (.t 0),none⟩,⟨some 4,.mv (.c .ns),none⟩]]) (.seq (.seq (.reg [.seq [⟨some 6,.mv (.t 1),none⟩]]) (.block 0 (.rf (.t 6) [7] slices_AppendSeq_Clause.a1 slices_AppendSeq_Clause.b2))) (.seq (.reg [.seq [⟨some 12,.ld false 1 (.t 2),none⟩,⟨some 4,.mv (.t 12),none⟩]]) .ret))), [.t 4]⟩
def under_situation_clauses_1.b1 : PCode := (.seq (.reg [.seq [⟨some 14,.bi .lss (.t 13) (.t 12),none⟩]]) (.seq (.cond (.t 14) .skip (.exit 0)) (.seq (.block 1 (.seq (.reg [.seq [⟨some 15,.mv (.t 13),none⟩,⟨some 16,.ia 1 (.t 11) (.t 13),none⟩,⟨some 17,.ld false 1 (.t 16),none⟩,⟨some 3,.mv (.t 15),none⟩,⟨some 4,.mv (.t 17),none⟩]]) (.seq (.reg [.seq [⟨some 18,.mv (.t 4),none⟩,⟨some 19,.un .not (.t 18),none⟩,⟨some 20,.mv (.t 19),none⟩,⟨some 21,.mv (.t 0),some (20,true)⟩,⟨some 22,.mv (.t 3),some (20,true)⟩,⟨some 23,.bi .add (.t 22) (.c (.i .i64 1)),some (20,true)⟩,⟨some 24,.bd [.i .i64 0,.i .i64 0] [(0,1,.t 23)],some (20,true)⟩,⟨some 25,.bs 2 1 [.i .i64 0,.i .i64 0] [(0,2,.t 24)],some (20,true)⟩,⟨some 26,.bd [.i .i64 0,.i .i64 0] [(1,1,.c (.i .i64 1))],some (20,true)⟩,⟨some 27,.bd [.ns,.i .i64 0,.i .i64 0] [(0,1,.t 25),(1,2,.t 26)],some (20,true)⟩,⟨some 28,.ca (.t 21) [.t 27],some (20,true)⟩,⟨some 29,.un .not (.t 28),some (20,true)⟩,⟨some 30,.pk (.t 20) (.t 29) (.c (.b false)),none⟩]]) (.cond (.t 30) .ret .skip)))) (.reg [.seq [⟨some 31,.bi .add (.t 13) (.c (.i .i64 1)),none⟩,⟨some 13,.mv (.t 31),none⟩]]))))
def under_situation_clauses_1.b2 : PCode := (.seq (.reg [.seq [⟨some 49,.bi .lss (.t 48) (.t 47),none⟩]]) (.seq (.cond (.t 49) .skip (.exit 4)) (.seq (.block 5 (.seq (.reg [.seq [⟨some 50,.ia 2 (.t 46) (.t 48),none⟩,⟨some 51,.ld true 2 (.t 50),none⟩,⟨some 9,.al [.i .i64 0,.i .i64 0],none⟩,⟨none,.st 2 (.t 9) (.t 51),none⟩]]) (.seq (.reg [.seq [⟨some 52,.mv (.t 0),none⟩,⟨some 53,.mv (.t 7),none⟩,⟨some 54,.ld true 2 (.t 9),none⟩,⟨some 55,.bd [.ns,.i .i64 0,.i .i64 0] [(0,1,.t 53),(1,2,.t 54)],none⟩,⟨some 56,.ca (.t 52) [.t 55],none⟩,⟨some 57,.un .not (.t 56),none⟩]]) (.cond (.t 57) .ret .skip)))) (.reg [.seq [⟨some 58,.bi .add (.t 48) (.c (.i .i64 1)),none⟩,⟨some 48,.mv (.t 58),none⟩]]))))
def under_situation_clauses_1.b3 : PCode := (.seq (.reg [.seq [⟨some 36,.bi .lss (.t 35) (.t 34),none⟩]]) (.seq (.cond (.t 36) .skip (.exit 2)) (.seq (.block 3 (.seq (.reg [.seq [⟨some 37,.ia 6 (.t 33) (.t 35),none⟩,⟨some 38,.ld true 6 (.t 37),none⟩,⟨some 6,.al [.i .i64 0,.i .i64 0,.ns,.i .i64 0,.i .i64 0,.ns],none⟩,⟨none,.st 6 (.t 6) (.t 38),none⟩]]) (.seq (.reg [.seq [⟨some 39,.ld true 2 (.t 1),none⟩,⟨some 40,.fa 3 (.t 6),none⟩,⟨some 41,.ld true 3 (.t 40),none⟩,⟨some 42,.ca (.c (.fn (.func under_situation_atoms.n) [] [])) [.t 39,.t 41],none⟩,⟨some 7,.mv (.t 42),none⟩]]) (.seq (.reg [.seq [⟨some 43,.ld true 2 (.t 1),none⟩,⟨some 44,.fa 0 (.t 6),none⟩,⟨some 45,.ld true 3 (.t 44),none⟩,⟨some 46,.ca (.c (.fn (.func under_situation_atoms.n) [] [])) [.t 43,.t 45],none⟩,⟨some 47,.ln .l (.t 46),none⟩,⟨some 48,.mv (.c (.i .i64 0)),none⟩]]) (.block 4 (.loop under_situation_clauses_1.b2)))))) (.reg [.seq [⟨some 59,.bi .add (.t 35) (.c (.i .i64 1)),none⟩,⟨some 35,.mv (.t 59),none⟩]]))))
def under_situation_clauses_1.c : PFun := ⟨(.seq (.seq (.reg [.seq [⟨some 10,.fa 1 (.t 1),none⟩,⟨some 11,.ld false 1 (.t 10),none⟩,⟨some 12,.ln .l (.t 11),none⟩,⟨some 13,.mv (.c (.i .i64 0)),none⟩]]) (.block 0 (.loop under_situation_clauses_1.b1))) (.seq (.reg [.seq [⟨some 32,.fa 0 (.t 1),none⟩,⟨some 33,.ld false 1 (.t 32),none⟩,⟨some 34,.ln .l (.t 33),none⟩,⟨some 35,.mv (.c (.i .i64 0)),none⟩]]) (.block 2 (.loop under_situation_clauses_1.b3)))), []⟩
def level_kinds_1.c : PFun := ⟨(.seq (.reg [.seq [⟨some 3,.bx (.t 0),none⟩,⟨some 4,.bx (.t 1),none⟩,⟨some 6,.mv (.c (.i .i64 0)),none⟩]]) (.seq (.reg [.seq [⟨some 6,.mv (.c (.i .i64 0)),none⟩]]) .ret)), [.t 6]⟩
def level_kinds_2.c : PFun := ⟨(.seq (.reg [.seq [⟨some 3,.bx (.t 0),none⟩,⟨some 4,.bx (.t 1),none⟩,⟨some 6,.mv (.c (.i .i64 0)),none⟩]]) (.seq (.reg [.seq [⟨some 7,.mv (.t 2),none⟩,⟨some 8,.ia 1 (.t 7) (.c (.i .i64 0)),none⟩,⟨some 9,.ld false 1 (.t 8),none⟩,⟨some 10,.bi .add (.t 9) (.c (.i .i64 1)),none⟩,⟨some 6,.mv (.t 10),none⟩]]) .ret)), [.t 6]⟩
def level_kinds_3.c : PFun := ⟨(.seq (.reg [.seq [⟨some 3,.bx (.t 0),none⟩,⟨some 4,.bx (.t 1),none⟩,⟨some 6,.mv (.c (.i .i64 0)),none⟩]]) (.seq (.reg [.any [⟨some 7,.mv (.t 2),none⟩,⟨some 8,.ia 1 (.t 7) (.c (.i .i64 0)),none⟩,⟨some 9,.ld false 1 (.t 8),none⟩,⟨some 10,.mv (.t 2),none⟩,⟨some 11,.ia 1 (.t 10) (.c (.i .i64 1)),none⟩,⟨some 12,.ld false 1 (.t 11),none⟩] [],.seq [⟨some 13,.mx [.t 9,.t 12],none⟩],.seq [⟨some 6,.mv (.t 13),none⟩]]) .ret)), [.t 6]⟩
def level_kinds_4.c : PFun := ⟨(.seq (.reg [.seq [⟨some 3,.bx (.t 0),none⟩,⟨some 4,.bx (.t 1),none⟩,⟨some 6,.mv (.c (.i .i64 0)),none⟩]]) (.seq (.reg [.any [⟨some 7,.mv (.t 2),none⟩,⟨some 8,.ia 1 (.t 7) (.c (.i .i64 0)),none⟩,⟨some 9,.ld false 1 (.t 8),none⟩,⟨some 10,.mv (.t 2),none⟩,⟨some 11,.ia 1 (.t 10) (.c (.i .i64 1)),none⟩,⟨some 12,.ld false 1 (.t 11),none⟩] [],.seq [⟨some 13,.ca (.c (.fn (.func level_imax.n) [] [])) [.t 9,.t 12],none⟩],.seq [⟨some 6,.mv (.t 13),none⟩]]) .ret)), [.t 6]⟩
def level_imax.c : PFun := ⟨(.seq (.reg [.seq [⟨some 4,.mv (.c (.i .i64 0)),none⟩]]) (.seq (.seq (.reg [.seq [⟨some 5,.mv (.t 1),none⟩,⟨some 6,.bi .eql (.t 5) (.c (.i .i64 0)),none⟩]]) (.cond (.t 6) (.seq (.reg [.seq [⟨some 4,.mv (.c (.i .i64 0)),none⟩]]) .ret) .skip)) (.seq (.reg [.seq [⟨some 7,.mv (.t 0),none⟩,⟨some 8,.mv (.t 1),none⟩,⟨some 9,.mx [.t 7,.t 8],none⟩,⟨some 4,.mv (.t 9),none⟩]]) .ret))), [.t 4]⟩
def level_kinds_5.c : PFun := ⟨(.seq (.reg [.seq [⟨some 3,.bx (.t 0),none⟩,⟨some 4,.bx (.t 1),none⟩,⟨some 6,.mv (.c (.i .i64 0)),none⟩]]) (.seq (.reg [.seq [⟨some 7,.fa 0 (.t 4),none⟩,⟨some 8,.ld false 1 (.t 7),none⟩,⟨some 9,.fa 1 (.t 3),none⟩,⟨some 10,.ld false 1 (.t 9),none⟩,⟨some 11,.ia 1 (.t 8) (.t 10),none⟩,⟨some 12,.ld false 1 (.t 11),none⟩,⟨some 6,.mv (.t 12),none⟩]]) .ret)), [.t 6]⟩
def level_kinds_6.c : PFun := ⟨(.seq (.reg [.seq [⟨some 3,.bx (.t 0),none⟩,⟨some 4,.bx (.t 1),none⟩,⟨some 6,.mv (.c (.i .i64 0)),none⟩]]) (.seq (.reg [.seq [⟨some 7,.fa 1 (.t 4),none⟩,⟨some 8,.ld false 1 (.t 7),none⟩,⟨some 9,.fa 1 (.t 3),none⟩,⟨some 10,.ld false 1 (.t 9),none⟩,⟨some 11,.ia 1 (.t 8) (.t 10),none⟩,⟨some 12,.ld false 1 (.t 11),none⟩,⟨some 6,.mv (.t 12),none⟩]]) .ret)), [.t 6]⟩
def under_Possible_1.c : PFun := ⟨(.seq (.reg [.seq [⟨some 1,.bx (.t 0),none⟩,⟨some 2,.mv (.c .ns),none⟩,⟨some 3,.mv (.c (.b false)),none⟩]]) (.seq (.reg [.seq [⟨some 4,.ld true 2 (.t 1),none⟩,⟨some 5,.ca (.c (.fn (.func under_situation_values.n) [] [])) [.t 4,.c .ns],none⟩,⟨some 6,.ex (.t 5) 0,none⟩,⟨some 7,.ex (.t 5) 1,none⟩,⟨some 2,.mv (.t 6),none⟩,⟨some 3,.mv (.t 7),none⟩]]) .ret)), [.t 2,.t 3]⟩
def slices_DeleteFunc_Con.b1 : PCode := (.seq (.seq (.reg [.seq [⟨some 16,.mv (.t 6),none⟩,⟨some 17,.mv (.t 0),none⟩,⟨some 18,.ln .l (.t 17),none⟩,⟨some 19,.bi .lss (.t 16) (.t 18),none⟩]]) (.cond (.t 19) .skip (.exit 0))) (.seq (.block 1 (.seq (.reg [.seq [⟨some 22,.mv (.t 0),none⟩,⟨some 23,.mv (.t 6),none⟩,⟨some 24,.ia 6 (.t 22) (.t 23),none⟩,⟨some 25,.ld true 6 (.t 24),none⟩,⟨some 7,.al [.i .i64 0,.i .i64 0,.ns,.i .i64 0,.i .i64 0,.ns],none⟩,⟨none,.st 6 (.t 7) (.t 25),none⟩]]) (.seq (.reg [.seq [⟨some 26,.mv (.t 1),none⟩,⟨some 27,.ld true 6 (.t 7),none⟩,⟨some 28,.ca (.t 26) [.t 27],none⟩,⟨some 29,.un .not (.t 28),none⟩]]) (.cond (.t 29) (.seq (.reg [.seq [⟨some 30,.mv (.t 0),none⟩,⟨some 31,.mv (.t 5),none⟩,⟨some 32,.ld true 6 (.t 7),none⟩,⟨some 33,.ia 6 (.t 30) (.t 31),none⟩,⟨none,.st 6 (.t 33) (.t 32),none⟩]]) (.reg [.seq [⟨some 34,.mv (.t 5),none⟩,⟨some 35,.bi .add (.t 34) (.c (.i .i64 1)),none⟩,⟨some 5,.mv (.t 35),none⟩]])) .skip)))) (.reg [.seq [⟨some 20,.mv (.t 6),none⟩,⟨some 21,.bi .add (.t 20) (.c (.i .i64 1)),none⟩,⟨some 6,.mv (.t 21),none⟩]])))
def slices_DeleteFunc_Con.c : PFun := ⟨(.seq (.reg [.seq [⟨some 4,.mv (.c .ns),none⟩]]) (.seq (.reg [.seq [⟨some 8,.mv (.t 0),none⟩,⟨some 9,.mv (.t 1),none⟩,⟨some 10,.ca (.c (.fn (.func slices_IndexFunc_Con.n) [] [])) [.t 8,.t 9],none⟩,⟨some 5,.mv (.t 10),none⟩]]) (.seq (.seq (.reg [.seq [⟨some 11,.mv (.t 5),none⟩,⟨some 12,.bi .eql (.t 11) (.c (.i .i64 (-1))),none⟩]]) (.cond (.t 12) (.seq (.reg [.seq [⟨some 13,.mv (.t 0),none⟩,⟨some 4,.mv (.t 13),none⟩]]) .ret) .skip)) (.seq (.seq (.reg [.seq [⟨some 14,.mv (.t 5),none⟩,⟨some 15,.bi .add (.t 14) (.c (.i .i64 1)),none⟩,⟨some 6,.mv (.t 15),none⟩]]) (.block 0 (.loop slices_DeleteFunc_Con.b1))) (.seq (.reg [.seq [⟨some 36,.mv (.t 0),none⟩,⟨some 37,.mv (.t 5),none⟩,⟨some 38,.sv 6 (.t 36) (some (.t 37)) none none,none⟩,⟨none,.no,none⟩]]) (.seq (.reg [.seq [⟨some 39,.mv (.t 0),none⟩,⟨some 40,.mv (.t 5),none⟩,⟨some 41,.sv 6 (.t 39) none (some (.t 40)) none,none⟩,⟨some 4,.mv (.t 41),none⟩]]) .ret)))))), [.t 4]⟩
def slices_Repeat_Level.b1 : PCode := (.seq (.seq (.reg [.seq [⟨some 34,.mv (.t 8),none⟩,⟨some 35,.mv (.t 7),none⟩,⟨some 36,.ln .l (.t 35),none⟩,⟨some 37,.bi .lss (.t 34) (.t 36),none⟩]]) (.cond (.t 37) .skip (.exit 0))) (.block 1 (.reg [.any [⟨some 38,.mv (.t 8),none⟩,⟨some 39,.mv (.t 7),none⟩,⟨some 40,.mv (.t 8),none⟩,⟨some 41,.sv 3 (.t 39) (some (.t 40)) none none,none⟩,⟨some 42,.mv (.t 7),none⟩,⟨some 43,.mv (.t 8),none⟩,⟨some 44,.sv 3 (.t 42) none (some (.t 43)) none,none⟩,⟨some 45,.cp 3 (.t 41) (.t 44),none⟩] [],.seq [⟨some 46,.bi .add (.t 38) (.t 45),none⟩],.seq [⟨some 8,.mv (.t 46),none⟩]])))
def slices_Repeat_Level.c : PFun := ⟨(.seq (.reg [.seq [⟨some 4,.mv (.c .ns),none⟩]]) (.seq (.seq (.reg [.seq [⟨some 9,.mv (.t 1),none⟩,⟨some 10,.bi .lss (.t 9) (.c (.i .i64 0)),none⟩]]) (.cond (.t 10) (.reg [.seq [⟨some 11,.mi 9 (.c (.s (bs [99,97,110,110,111,116,32,98,101,32,110,101,103,97,116,105,118,101]))),none⟩,⟨none,.pa (.t 11),none⟩]]) .skip)) (.seq (.reg [.seq [⟨some 13,.mv (.t 0),none⟩,⟨some 14,.ln .l (.t 13),none⟩,⟨some 15,.ci .u64 (.t 14),none⟩,⟨some 16,.mv (.t 1),none⟩,⟨some 17,.ci .u64 (.t 16),none⟩,⟨some 18,.ca (.c (.fn (.func math_bits_Mul.n) [] [])) [.t 15,.t 17],none⟩,⟨some 12,.mv (.t 18),none⟩,⟨some 19,.ex (.t 12) 0,none⟩,⟨some 20,.ex (.t 12) 1,none⟩,⟨some 5,.mv (.t 19),none⟩,⟨some 6,.mv (.t 20),none⟩]]) (.seq (.seq (.reg [.seq [⟨some 21,.mv (.t 5),none⟩,⟨some 22,.bi .gtr (.t 21) (.c (.i .u64 0)),none⟩,⟨some 23,.mv (.t 22),none⟩,⟨some 24,.mv (.t 6),some (23,false)⟩,⟨some 25,.bi .gtr (.t 24) (.c (.i .u64 9223372036854775807)),some (23,false)⟩,⟨some 26,.pk (.t 23) (.c (.b true)) (.t 25),none⟩]]) (.cond (.t 26) (.reg [.seq [⟨some 27,.mi 9 (.c (.s (bs [116,104,101,32,114,101,115,117,108,116,32,111,102,32,40,108,101,110,40,120,41,32,42,32,99,111,117,110,116,41,32,111,118,101,114,102,108,111,119,115]))),none⟩,⟨none,.pa (.t 27),none⟩]]) .skip)) (.seq (.reg [.seq [⟨some 28,.mv (.t 6),none⟩,⟨some 29,.ci .i64 (.t 28),none⟩,⟨some 30,.mk 3 [.i .i64 0,.i .i64 0,.ns] (.t 29) (.t 29),none⟩,⟨some 7,.mv (.t 30),none⟩]]) (.seq (.reg [.seq [⟨some 31,.mv (.t 7),none⟩,⟨some 32,.mv (.t 0),none⟩,⟨some 33,.cp 3 (.t 31) (.t 32),none⟩,⟨some 8,.mv (.t 33),none⟩]]) (.seq (.block 0 (.loop slices_Repeat_Level.b1)) (.seq (.reg [.seq [⟨some 47,.mv (.t 7),none⟩,⟨some 4,.mv (.t 47),none⟩]]) .ret)))))))), [.t 4]⟩
def slices_Grow_Con.c : PFun := ⟨(.seq (.reg [.seq [⟨some 4,.mv (.c .ns),none⟩]]) (.seq (.seq (.reg [.seq [⟨some 5,.mv (.t 1),none⟩,⟨some 6,.bi .lss (.t 5) (.c (.i .i64 0)),none⟩]]) (.cond (.t 6) (.reg [.seq [⟨some 7,.mi 9 (.c (.s (bs [99,97,110,110,111,116,32,98,101,32,110,101,103,97,116,105,118,101]))),none⟩,⟨none,.pa (.t 7),none⟩]]) .skip)) (.seq (.seq (.reg [.seq [⟨some 8,.mv (.t 1),none⟩,⟨some 9,.mv (.t 0),none⟩,⟨some 10,.ln .c (.t 9),none⟩,⟨some 11,.mv (.t 0),none⟩,⟨some 12,.ln .l (.t 11),none⟩,⟨some 13,.bi .sub (.t 10) (.t 12),none⟩,⟨some 14,.bi .sub (.t 8) (.t 13),none⟩,⟨some 1,.mv (.t 14),none⟩]]) (.seq (.reg [.seq [⟨some 15,.mv (.t 1),none⟩,⟨some 16,.bi .gtr (.t 15) (.c (.i .i64 0)),none⟩]]) (.cond (.t 16) (.reg [.seq [⟨some 17,.mv (.t 0),none⟩,⟨some 18,.mv (.t 0),none⟩,⟨some 19,.ln .c (.t 18),none⟩,⟨some 20,.sv 6 (.t 17) none (some (.t 19)) none,none⟩,⟨some 21,.mv (.t 1),none⟩,⟨some 22,.an 6 [.i .i64 0,.i .i64 0,.ns,.i .i64 0,.i .i64 0,.ns] (.t 20) (.t 21),none⟩,⟨some 23,.mv (.t 0),none⟩,⟨some 24,.ln .l (.t 23),none⟩,⟨some 25,.sv 6 (.t 22) none (some (.t 24)) none,none⟩,⟨some 0,.mv (.t 25),none⟩]]) .skip))) (.seq (.reg [.seq [⟨some 26,.mv (.t 0),none⟩,⟨some 4,.mv (.t 26),none⟩]]) .ret)))), [.t 4]⟩
def slices_Concat_Level.b1 : PCode := (.seq (.reg [.seq [⟨some 12,.bi .lss (.t 11) (.t 10),none⟩]]) (.seq (.cond (.t 12) .skip (.exit 0)) (.seq (.block 1 (.seq (.reg [.seq [⟨some 13,.ia 1 (.t 9) (.t 11),none⟩,⟨some 14,.ld false 1 (.t 13),none⟩,⟨some 5,.mv (.t 14),none⟩]]) (.seq (.reg [.seq [⟨some 15,.mv (.t 3),none⟩,⟨some 16,.mv (.t 5),none⟩,⟨some 17,.ln .l (.t 16),none⟩,⟨some 18,.bi .add (.t 15) (.t 17),none⟩,⟨some 3,.mv (.t 18),none⟩]]) (.seq (.reg [.seq [⟨some 19,.mv (.t 3),none⟩,⟨some 20,.bi .lss (.t 19) (.c (.i .i64 0)),none⟩]]) (.cond (.t 20) (.reg [.seq [⟨some 21,.mi 9 (.c (.s (bs [108,101,110,32,111,117,116,32,111,102,32,114,97,110,103,101]))),none⟩,⟨none,.pa (.t 21),none⟩]]) .skip))))) (.reg [.seq [⟨some 22,.bi .add (.t 11) (.c (.i .i64 1)),none⟩,⟨some 11,.mv (.t 22),none⟩]]))))
def slices_Concat_Level.b2 : PCode := (.seq (.reg [.seq [⟨some 28,.bi .lss (.t 27) (.t 26),none⟩]]) (.seq (.cond (.t 28) .skip (.exit 2)) (.seq (.block 3 (.seq (.reg [.seq [⟨some 29,.ia 1 (.t 25) (.t 27),none⟩,⟨some 30,.ld false 1 (.t 29),none⟩,⟨some 8,.mv (.t 30),none⟩]]) (.reg [.seq [⟨some 31,.mv (.t 6),none⟩,⟨some 32,.mv (.t 8),none⟩,⟨some 33,.ap 3 (.t 31) (.t 32),none⟩,⟨some 6,.mv (.t 33),none⟩]]))) (.reg [.seq [⟨some 34,.bi .add (.t 27) (.c (.i .i64 1)),none⟩,⟨some 27,.mv (.t 34),none⟩]]))))
def slices_Concat_Level.c : PFun := ⟨(.seq (.reg [.seq [⟨some 2,.mv (.c .ns),none⟩]]) (.seq (.reg [.seq [⟨some 3,.mv (.c (.i .i64 0)),none⟩]]) (.seq (.seq (.reg [.seq [⟨some 9,.mv (.t 0),none⟩,⟨some 10,.ln .l (.t 9),none⟩,⟨some 11,.mv (.c (.i .i64 0)),none⟩]]) (.block 0 (.loop slices_Concat_Level.b1))) (.seq (.reg [.seq [⟨some 23,.mv (.t 3),none⟩,⟨some 24,.ca (.c (.fn (.func slices_Grow_Level.n) [] [])) [.c .ns,.t 23],none⟩,⟨some 6,.mv (.t 24),none⟩]]) (.seq (.seq (.reg [.seq [⟨some 25,.mv (.t 0),none⟩,⟨some 26,.ln .l (.t 25),none⟩,⟨some 27,.mv (.c (.i .i64 0)),none⟩]]) (.block 2 (.loop slices_Concat_Level.b2))) (.seq (.reg [.seq [⟨some 35,.mv (.t 6),none⟩,⟨some 2,.mv (.t 35),none⟩]]) .ret)))))), [.t 2]⟩
def slices_IndexFunc_Clause.b1 : PCode := (.seq (.reg [.seq [⟨some 9,.bi .lss (.t 8) (.t 7),none⟩]]) (.seq (.cond (.t 9) .skip (.exit 0)) (.seq (.block 1 (.seq (.reg [.seq [⟨some 10,.mv (.t 8),none⟩,⟨some 5,.mv (.t 10),none⟩]]) (.seq (.reg [.seq [⟨some 11,.mv (.t 1),none⟩,⟨some 12,.mv (.t 0),none⟩,⟨some 13,.mv (.t 5),none⟩,⟨some 14,.ia 3 (.t 12) (.t 13),none⟩,⟨some 15,.ld true 3 (.t 14),none⟩,⟨some 16,.ca (.t 11) [.t 15],none⟩]]) (.cond (.t 16) (.seq (.reg [.seq [⟨some 17,.mv (.t 5),none⟩,⟨some 4,.mv (.t 17),none⟩]]) .ret) .skip)))) (.reg [.seq [⟨some 18,.bi .add (.t 8) (.c (.i .i64 1)),none⟩,⟨some 8,.mv (.t 18),none⟩]]))))
def slices_IndexFunc_Clause.c : PFun := ⟨(.seq (.reg [.seq [⟨some 4,.mv (.c (.i .i64 0)),none⟩]]) (.seq (.seq (.reg [.seq [⟨some 6,.mv (.t 0),none⟩,⟨some 7,.ln .l (.t 6),none⟩,⟨some 8,.mv (.c (.i .i64 0)),none⟩]]) (.block 0 (.loop slices_IndexFunc_Clause.b1))) (.seq (.reg [.seq [⟨some 4,.mv (.c (.i .i64 (-1))),none⟩]]) .ret))), [.t 4]⟩
def horn_atoms_1.b1 : PCode := (.seq (.reg [.seq [⟨some 23,.bi .lss (.t 22) (.t 21),none⟩]]) (.seq (.cond (.t 23) .skip (.exit 2)) (.seq (.block 3 (.seq (.reg [.seq [⟨some 24,.ia 2 (.t 20) (.t 22),none⟩,⟨some 25,.ld true 2 (.t 24),none⟩,⟨some 6,.al [.i .i64 0,.i .i64 0],none⟩,⟨none,.st 2 (.t 6) (.t 25),none⟩]]) (.seq (.reg [.seq [⟨some 26,.mv (.t 0),none⟩,⟨some 27,.mv (.t 3),none⟩,⟨some 28,.ld true 2 (.t 6),none⟩,⟨some 29,.ca (.t 26) [.t 27,.t 28],none⟩,⟨some 30,.un .not (.t 29),none⟩]]) (.cond (.t 30) .ret .skip)))) (.reg [.seq [⟨some 31,.bi .add (.t 22) (.c (.i .i64 1)),none⟩,⟨some 22,.mv (.t 31),none⟩]]))))
def horn_atoms_1.b2 : PCode := (.seq (.reg [.seq [⟨some 10,.bi .lss (.t 9) (.t 8),none⟩]]) (.seq (.cond (.t 10) .skip (.exit 0)) (.seq (.block 1 (.seq (.reg [.seq [⟨some 11,.mv (.t 9),none⟩,⟨some 12,.ia 3 (.t 7) (.t 9),none⟩,⟨some 13,.ld true 3 (.t 12),none⟩,⟨some 4,.al [.ns,.i .i64 0,.i .i64 0],none⟩,⟨some 3,.mv (.t 11),none⟩,⟨none,.st 3 (.t 4) (.t 13),none⟩]]) (.seq (.reg [.seq [⟨some 14,.fa 0 (.t 4),none⟩,⟨some 15,.ld false 1 (.t 14),none⟩,⟨some 16,.fa 1 (.t 4),none⟩,⟨some 17,.ld true 2 (.t 16),none⟩,⟨some 18,.bs 2 1 [.i .i64 0,.i .i64 0] [(0,2,.t 17)],none⟩,⟨some 19,.bs 1 2 [.ns] [(0,1,.t 15),(1,1,.t 18)],none⟩,⟨some 20,.ca (.c (.fn (.func slices_Concat_Atom.n) [] [])) [.t 19],none⟩,⟨some 21,.ln .l (.t 20),none⟩,⟨some 22,.mv (.c (.i .i64 0)),none⟩]]) (.block 2 (.loop horn_atoms_1.b1))))) (.reg [.seq [⟨some 32,.bi .add (.t 9) (.c (.i .i64 1)),none⟩,⟨some 9,.mv (.t 32),none⟩]]))))
def horn_atoms_1.c : PFun := ⟨(.seq (.reg [.seq [⟨some 7,.ld false 1 (.t 1),none⟩,⟨some 8,.ln .l (.t 7),none⟩,⟨some 9,.mv (.c (.i .i64 0)),none⟩]]) (.block 0 (.loop horn_atoms_1.b2))), []⟩
def slices_Concat_Atom.b1 : PCode := (.seq (.reg [.seq [⟨some 12,.bi .lss (.t 11) (.t 10),none⟩]]) (.seq (.cond (.t 12) .skip (.exit 0)) (.seq (.block 1 (.seq (.reg [.seq [⟨some 13,.ia 1 (.t 9) (.t 11),none⟩,⟨some 14,.ld false 1 (.t 13),none⟩,⟨some 5,.mv (.t 14),none⟩]]) (.seq (.reg [.seq [⟨some 15,.mv (.t 3),none⟩,⟨some 16,.mv (.t 5),none⟩,⟨some 17,.ln .l (.t 16),none⟩,⟨some 18,.bi .add (.t 15) (.t 17),none⟩,⟨some 3,.mv (.t 18),none⟩]]) (.seq (.reg [.seq [⟨some 19,.mv (.t 3),none⟩,⟨some 20,.bi .lss (.t 19) (.c (.i .i64 0)),none⟩]]) (.cond (.t 20) (.reg [.seq [⟨some 21,.mi 9 (.c (.s (bs [108,101,110,32,111,117,116,32,111,102,32,114,97,110,103,101]))),none⟩,⟨none,.pa (.t 21),none⟩]]) .skip))))) (.reg [.seq [⟨some 22,.bi .add (.t 11) (.c (.i .i64 1)),none⟩,⟨some 11,.mv (.t 22),none⟩]]))))
def slices_Concat_Atom.b2 : PCode := (.seq (.reg [.seq [⟨some 28,.bi .lss (.t 27) (.t 26),none⟩]]) (.seq (.cond (.t 28) .skip (.exit 2)) (.seq (.block 3 (.seq (.reg [.seq [⟨some 29,.ia 1 (.t 25) (.t 27),none⟩,⟨some 30,.ld false 1 (.t 29),none⟩,⟨some 8,.mv (.t 30),none⟩]]) (.reg [.seq [⟨some 31,.mv (.t 6),none⟩,⟨some 32,.mv (.t 8),none⟩,⟨some 33,.ap 2 (.t 31) (.t 32),none⟩,⟨some 6,.mv (.t 33),none⟩]]))) (.reg [.seq [⟨some 34,.bi .add (.t 27) (.c (.i .i64 1)),none⟩,⟨some 27,.mv (.t 34),none⟩]]))))
def slices_Concat_Atom.c : PFun := ⟨(.seq (.reg [.seq [⟨some 2,.mv (.c .ns),none⟩]]) (.seq (.reg [.seq [⟨some 3,.mv (.c (.i .i64 0)),none⟩]]) (.seq (.seq (.reg [.seq [⟨some 9,.mv (.t 0),none⟩,⟨some 10,.ln .l (.t 9),none⟩,⟨some 11,.mv (.c (.i .i64 0)),none⟩]]) (.block 0 (.loop slices_Concat_Atom.b1))) (.seq (.reg [.seq [⟨some 23,.mv (.t 3),none⟩,⟨some 24,.ca (.c (.fn (.func slices_Grow_Atom.n) [] [])) [.c .ns,.t 23],none⟩,⟨some 6,.mv (.t 24),none⟩]]) (.seq (.seq (.reg [.seq [⟨some 25,.mv (.t 0),none⟩,⟨some 26,.ln .l (.t 25),none⟩,⟨some 27,.mv (.c (.i .i64 0)),none⟩]]) (.block 2 (.loop slices_Concat_Atom.b2))) (.seq (.reg [.seq [⟨some 35,.mv (.t 6),none⟩,⟨some 2,.mv (.t 35),none⟩]]) .ret)))))), [.t 2]⟩
def solve_model_rounds_1.b1 : PCode := (.block 1 (.seq (.reg [.seq [⟨some 4,.ld true 16 (.t 1),none⟩,⟨some 5,.ld false 1 (.t 2),none⟩,⟨some 6,.ca (.c (.fn (.func solve_model_round.n) [] [])) [.t 4,.t 5],none⟩,⟨none,.st 16 (.t 1) (.t 6),none⟩]]) (.seq (.reg [.seq [⟨some 7,.mv (.t 0),none⟩,⟨some 8,.ld true 16 (.t 1),none⟩,⟨some 9,.ca (.t 7) [.t 8],none⟩,⟨some 10,.un .not (.t 9),none⟩]]) (.cond (.t 10) .ret .skip))))
def solve_model_rounds_1.c : PFun := ⟨(.block 0 (.loop solve_model_rounds_1.b1)), []⟩
def solve_model_round.b1 : PCode := (.seq (.reg [.seq [⟨some 10,.bi .lss (.t 9) (.t 8),none⟩]]) (.seq (.cond (.t 10) .skip (.exit 0)) (.seq (.block 1 (.seq (.reg [.seq [⟨some 11,.ia 3 (.t 7) (.t 9),none⟩,⟨some 12,.ld true 3 (.t 11),none⟩,⟨some 6,.al [.ns,.i .i64 0,.i .i64 0],none⟩,⟨none,.st 3 (.t 6) (.t 12),none⟩]]) (.reg [.any [⟨some 13,.fa 1 (.t 6),none⟩,⟨some 14,.fa 0 (.t 13),none⟩,⟨some 15,.ld false 1 (.t 14),none⟩,⟨some 16,.fa 1 (.t 6),none⟩,⟨some 17,.fa 0 (.t 16),none⟩,⟨some 18,.ld false 1 (.t 17),none⟩,⟨some 19,.iz 16 1 (.t 2) (.t 18),none⟩,⟨some 20,.ld false 1 (.t 19),none⟩,⟨some 21,.ld true 3 (.t 6),none⟩,⟨some 22,.sa 16 1 (.t 2) none none,none⟩,⟨some 23,.ca (.c (.fn (.func horn_Asks.n) [] [])) [.t 21,.t 22],none⟩,⟨some 24,.mx [.t 20,.t 23],none⟩] [(2,10),(5,10),(7,10)],.seq [⟨some 25,.iz 16 1 (.t 2) (.t 15),none⟩],.seq [⟨none,.st 1 (.t 25) (.t 24),none⟩]]))) (.reg [.seq [⟨some 26,.bi .add (.t 9) (.c (.i .i64 1)),none⟩,⟨some 9,.mv (.t 26),none⟩]]))))
def solve_model_round.c : PFun := ⟨(.seq (.reg [.seq [⟨some 2,.bx (.t 0),none⟩,⟨some 4,.al [.i .i64 0,.i .i64 0,.i .i64 0,.i .i64 0,.i .i64 0,.i .i64 0,.i .i64 0,.i .i64 0,.i .i64 0,.i .i64 0,.i .i64 0,.i .i64 0,.i .i64 0,.i .i64 0,.i .i64 0,.i .i64 0],none⟩]]) (.seq (.seq (.reg [.seq [⟨some 7,.mv (.t 1),none⟩,⟨some 8,.ln .l (.t 7),none⟩,⟨some 9,.mv (.c (.i .i64 0)),none⟩]]) (.block 0 (.loop solve_model_round.b1))) (.seq (.reg [.seq [⟨some 27,.ld true 16 (.t 2),none⟩,⟨none,.st 16 (.t 4) (.t 27),none⟩]]) .ret))), [.c 4 true 16]⟩
def flat_plain.c : PFun := ⟨(.seq (.reg [.seq [⟨some 4,.al [.i .i64 0,.ns],none⟩]]) (.seq (.reg [.seq [⟨some 5,.mv (.t 0),none⟩,⟨some 6,.bs 1 1 [.i .i64 0] [(0,1,.c (.i .i64 (-1)))],none⟩,⟨some 7,.mv (.t 1),none⟩,⟨some 8,.ca (.c (.fn (.func slices_Repeat_int.n) [] [])) [.t 6,.t 7],none⟩,⟨some 9,.bd [.i .i64 0,.ns] [(0,1,.t 5),(1,1,.t 8)],none⟩,⟨none,.st 2 (.t 4) (.t 9),none⟩]]) .ret)), [.c 4 true 2]⟩
def flat_succ.b1 : PCode := (.seq (.reg [.seq [⟨some 13,.bi .lss (.t 12) (.t 11),none⟩]]) (.seq (.cond (.t 13) .skip (.exit 0)) (.seq (.block 1 (.seq (.reg [.seq [⟨some 14,.mv (.t 12),none⟩,⟨some 15,.ia 1 (.t 10) (.t 12),none⟩,⟨some 16,.ld false 1 (.t 15),none⟩,⟨some 3,.mv (.t 14),none⟩,⟨some 4,.mv (.t 16),none⟩]]) (.seq (.reg [.seq [⟨some 17,.mv (.t 4),none⟩,⟨some 18,.bi .neq (.t 17) (.c (.i .i64 (-1))),none⟩]]) (.cond (.t 18) (.reg [.seq [⟨some 19,.fa 1 (.t 1),none⟩,⟨some 20,.ld false 1 (.t 19),none⟩,⟨some 21,.mv (.t 3),none⟩,⟨some 22,.ia 1 (.t 20) (.t 21),none⟩,⟨some 23,.ld false 1 (.t 22),none⟩,⟨some 24,.bi .add (.t 23) (.c (.i .i64 1)),none⟩,⟨some 25,.ia 1 (.t 20) (.t 21),none⟩,⟨none,.st 1 (.t 25) (.t 24),none⟩]]) .skip)))) (.reg [.seq [⟨some 26,.bi .add (.t 12) (.c (.i .i64 1)),none⟩,⟨some 12,.mv (.t 26),none⟩]]))))
def flat_succ.c : PFun := ⟨(.seq (.reg [.seq [⟨some 1,.bx (.t 0),none⟩,⟨some 2,.al [.i .i64 0,.ns],none⟩]]) (.seq (.reg [.seq [⟨some 5,.fa 0 (.t 1),none⟩,⟨some 6,.ld false 1 (.t 5),none⟩,⟨some 7,.bi .add (.t 6) (.c (.i .i64 1)),none⟩,⟨some 8,.fa 0 (.t 1),none⟩,⟨none,.st 1 (.t 8) (.t 7),none⟩]]) (.seq (.seq (.reg [.seq [⟨some 9,.fa 1 (.t 1),none⟩,⟨some 10,.ld false 1 (.t 9),none⟩,⟨some 11,.ln .l (.t 10),none⟩,⟨some 12,.mv (.c (.i .i64 0)),none⟩]]) (.block 0 (.loop flat_succ.b1))) (.seq (.reg [.seq [⟨some 27,.ld true 2 (.t 1),none⟩,⟨none,.st 2 (.t 2) (.t 27),none⟩]]) .ret)))), [.c 2 true 2]⟩
def flat_join.b1 : PCode := (.seq (.reg [.seq [⟨some 32,.bi .lss (.t 31) (.t 30),none⟩]]) (.seq (.cond (.t 32) .skip (.exit 2)) (.seq (.block 3 (.seq (.reg [.seq [⟨some 33,.mv (.t 31),none⟩,⟨some 34,.ia 1 (.t 29) (.t 31),none⟩,⟨some 35,.ld false 1 (.t 34),none⟩,⟨some 8,.mv (.t 33),none⟩,⟨some 9,.mv (.t 35),none⟩]]) (.reg [.any [⟨some 36,.fa 1 (.t 5),none⟩,⟨some 37,.ld false 1 (.t 36),none⟩,⟨some 38,.mv (.t 8),none⟩,⟨some 39,.fa 1 (.t 5),none⟩,⟨some 40,.ld false 1 (.t 39),none⟩,⟨some 41,.mv (.t 8),none⟩,⟨some 42,.ia 1 (.t 40) (.t 41),none⟩,⟨some 43,.ld false 1 (.t 42),none⟩,⟨some 44,.mv (.t 9),none⟩,⟨some 45,.mx [.t 43,.t 44],none⟩] [],.seq [⟨some 46,.ia 1 (.t 37) (.t 38),none⟩],.seq [⟨none,.st 1 (.t 46) (.t 45),none⟩]]))) (.reg [.seq [⟨some 47,.bi .add (.t 31) (.c (.i .i64 1)),none⟩,⟨some 31,.mv (.t 47),none⟩]]))))
def flat_join.b2 : PCode := (.seq (.reg [.seq [⟨some 19,.bi .lss (.t 18) (.t 17),none⟩]]) (.seq (.cond (.t 19) .skip (.exit 0)) (.seq (.block 1 (.seq (.reg [.seq [⟨some 20,.ia 2 (.t 16) (.t 18),none⟩,⟨some 21,.ld true 2 (.t 20),none⟩,⟨some 7,.al [.i .i64 0,.ns],none⟩,⟨none,.st 2 (.t 7) (.t 21),none⟩]]) (.seq (.reg [.seq [⟨some 22,.fa 0 (.t 5),none⟩,⟨some 23,.ld false 1 (.t 22),none⟩,⟨some 24,.fa 0 (.t 7),none⟩,⟨some 25,.ld false 1 (.t 24),none⟩,⟨some 26,.mx [.t 23,.t 25],none⟩,⟨some 27,.fa 0 (.t 5),none⟩,⟨none,.st 1 (.t 27) (.t 26),none⟩]]) (.seq (.reg [.seq [⟨some 28,.fa 1 (.t 7),none⟩,⟨some 29,.ld false 1 (.t 28),none⟩,⟨some 30,.ln .l (.t 29),none⟩,⟨some 31,.mv (.c (.i .i64 0)),none⟩]]) (.block 2 (.loop flat_join.b1)))))) (.reg [.seq [⟨some 48,.bi .add (.t 18) (.c (.i .i64 1)),none⟩,⟨some 18,.mv (.t 48),none⟩]]))))
def flat_join.c : PFun := ⟨(.seq (.reg [.seq [⟨some 2,.bx (.t 0),none⟩,⟨some 4,.al [.i .i64 0,.ns],none⟩]]) (.seq (.reg [.any [⟨some 10,.fa 0 (.t 2),none⟩,⟨some 11,.ld false 1 (.t 10),none⟩,⟨some 12,.fa 1 (.t 2),none⟩,⟨some 13,.ld false 1 (.t 12),none⟩,⟨some 14,.ca (.c (.fn (.func slices_Clone_int.n) [] [])) [.t 13],none⟩,⟨some 15,.bd [.i .i64 0,.ns] [(0,1,.t 11),(1,1,.t 14)],none⟩,⟨some 5,.al [.i .i64 0,.ns],none⟩] [(1,4),(1,6),(3,6),(4,6)],.seq [⟨none,.st 2 (.t 5) (.t 15),none⟩]]) (.seq (.seq (.reg [.seq [⟨some 16,.mv (.t 1),none⟩,⟨some 17,.ln .l (.t 16),none⟩,⟨some 18,.mv (.c (.i .i64 0)),none⟩]]) (.block 0 (.loop flat_join.b2))) (.seq (.reg [.seq [⟨some 49,.ld true 2 (.t 5),none⟩,⟨none,.st 2 (.t 4) (.t 49),none⟩]]) .ret)))), [.c 4 true 2]⟩
def flat_Right_1.c : PFun := ⟨(.seq (.reg [.seq [⟨some 2,.mv (.c (.b false)),none⟩]]) (.seq (.reg [.seq [⟨some 3,.mv (.t 0),none⟩,⟨some 4,.bi .lss (.t 3) (.c (.i .i64 (-1))),none⟩,⟨some 5,.mv (.t 4),none⟩,⟨some 6,.mv (.t 0),some (5,false)⟩,⟨some 7,.bi .gtr (.t 6) (.c (.i .i64 1000)),some (5,false)⟩,⟨some 8,.pk (.t 5) (.c (.b true)) (.t 7),none⟩,⟨some 2,.mv (.t 8),none⟩]]) .ret)), [.t 2]⟩
def slices_IndexFunc_Level.b1 : PCode := (.seq (.reg [.seq [⟨some 9,.bi .lss (.t 8) (.t 7),none⟩]]) (.seq (.cond (.t 9) .skip (.exit 0)) (.seq (.block 1 (.seq (.reg [.seq [⟨some 10,.mv (.t 8),none⟩,⟨some 5,.mv (.t 10),none⟩]]) (.seq (.reg [.seq [⟨some 11,.mv (.t 1),none⟩,⟨some 12,.mv (.t 0),none⟩,⟨some 13,.mv (.t 5),none⟩,⟨some 14,.ia 3 (.t 12) (.t 13),none⟩,⟨some 15,.ld true 3 (.t 14),none⟩,⟨some 16,.ca (.t 11) [.t 15],none⟩]]) (.cond (.t 16) (.seq (.reg [.seq [⟨some 17,.mv (.t 5),none⟩,⟨some 4,.mv (.t 17),none⟩]]) .ret) .skip)))) (.reg [.seq [⟨some 18,.bi .add (.t 8) (.c (.i .i64 1)),none⟩,⟨some 8,.mv (.t 18),none⟩]]))))
def slices_IndexFunc_Level.c : PFun := ⟨(.seq (.reg [.seq [⟨some 4,.mv (.c (.i .i64 0)),none⟩]]) (.seq (.seq (.reg [.seq [⟨some 6,.mv (.t 0),none⟩,⟨some 7,.ln .l (.t 6),none⟩,⟨some 8,.mv (.c (.i .i64 0)),none⟩]]) (.block 0 (.loop slices_IndexFunc_Level.b1))) (.seq (.reg [.seq [⟨some 4,.mv (.c (.i .i64 (-1))),none⟩]]) .ret))), [.t 4]⟩
def math_bits_Mul.c : PFun := ⟨(.seq (.reg [.seq [⟨some 4,.mv (.c (.i .u64 0)),none⟩,⟨some 5,.mv (.c (.i .u64 0)),none⟩]]) (.seq (.cond (.c (.b false)) (.seq (.reg [.seq [⟨some 11,.mv (.t 0),none⟩,⟨some 12,.ci .u32 (.t 11),none⟩,⟨some 13,.mv (.t 1),none⟩,⟨some 14,.ci .u32 (.t 13),none⟩,⟨some 15,.ca (.c (.fn (.func math_bits_Mul32.n) [] [])) [.t 12,.t 14],none⟩,⟨some 10,.mv (.t 15),none⟩,⟨some 16,.ex (.t 10) 0,none⟩,⟨some 17,.ex (.t 10) 1,none⟩,⟨some 6,.mv (.t 16),none⟩,⟨some 7,.mv (.t 17),none⟩]]) (.seq (.reg [.seq [⟨some 18,.mv (.t 6),none⟩,⟨some 19,.ci .u64 (.t 18),none⟩,⟨some 20,.mv (.t 7),none⟩,⟨some 21,.ci .u64 (.t 20),none⟩,⟨some 4,.mv (.t 19),none⟩,⟨some 5,.mv (.t 21),none⟩]]) .ret)) .skip) (.seq (.reg [.seq [⟨some 23,.mv (.t 0),none⟩,⟨some 24,.mv (.t 1),none⟩,⟨some 25,.ca (.c (.fn (.func math_bits_Mul64.n) [] [])) [.t 23,.t 24],none⟩,⟨some 22,.mv (.t 25),none⟩,⟨some 26,.ex (.t 22) 0,none⟩,⟨some 27,.ex (.t 22) 1,none⟩,⟨some 8,.mv (.t 26),none⟩,⟨some 9,.mv (.t 27),none⟩]]) (.seq (.reg [.seq [⟨some 28,.mv (.t 8),none⟩,⟨some 29,.mv (.t 9),none⟩,⟨some 4,.mv (.t 28),none⟩,⟨some 5,.mv (.t 29),none⟩]]) .ret)))), [.t 4,.t 5]⟩
def slices_ContainsFunc_Atom.c : PFun := ⟨(.seq (.reg [.seq [⟨some 4,.mv (.c (.b false)),none⟩]]) (.seq (.reg [.seq [⟨some 5,.mv (.t 0),none⟩,⟨some 6,.mv (.t 1),none⟩,⟨some 7,.ca (.c (.fn (.func slices_IndexFunc_Atom.n) [] [])) [.t 5,.t 6],none⟩,⟨some 8,.bi .geq (.t 7) (.c (.i .i64 0)),none⟩,⟨some 4,.mv (.t 8),none⟩]]) .ret)), [.t 4]⟩
def slices_Grow_Level.c : PFun := ⟨(.seq (.reg [.seq [⟨some 4,.mv (.c .ns),none⟩]]) (.seq (.seq (.reg [.seq [⟨some 5,.mv (.t 1),none⟩,⟨some 6,.bi .lss (.t 5) (.c (.i .i64 0)),none⟩]]) (.cond (.t 6) (.reg [.seq [⟨some 7,.mi 9 (.c (.s (bs [99,97,110,110,111,116,32,98,101,32,110,101,103,97,116,105,118,101]))),none⟩,⟨none,.pa (.t 7),none⟩]]) .skip)) (.seq (.seq (.reg [.seq [⟨some 8,.mv (.t 1),none⟩,⟨some 9,.mv (.t 0),none⟩,⟨some 10,.ln .c (.t 9),none⟩,⟨some 11,.mv (.t 0),none⟩,⟨some 12,.ln .l (.t 11),none⟩,⟨some 13,.bi .sub (.t 10) (.t 12),none⟩,⟨some 14,.bi .sub (.t 8) (.t 13),none⟩,⟨some 1,.mv (.t 14),none⟩]]) (.seq (.reg [.seq [⟨some 15,.mv (.t 1),none⟩,⟨some 16,.bi .gtr (.t 15) (.c (.i .i64 0)),none⟩]]) (.cond (.t 16) (.reg [.seq [⟨some 17,.mv (.t 0),none⟩,⟨some 18,.mv (.t 0),none⟩,⟨some 19,.ln .c (.t 18),none⟩,⟨some 20,.sv 3 (.t 17) none (some (.t 19)) none,none⟩,⟨some 21,.mv (.t 1),none⟩,⟨some 22,.an 3 [.i .i64 0,.i .i64 0,.ns] (.t 20) (.t 21),none⟩,⟨some 23,.mv (.t 0),none⟩,⟨some 24,.ln .l (.t 23),none⟩,⟨some 25,.sv 3 (.t 22) none (some (.t 24)) none,none⟩,⟨some 0,.mv (.t 25),none⟩]]) .skip))) (.seq (.reg [.seq [⟨some 26,.mv (.t 0),none⟩,⟨some 4,.mv (.t 26),none⟩]]) .ret)))), [.t 4]⟩
def slices_Grow_Atom.c : PFun := ⟨(.seq (.reg [.seq [⟨some 4,.mv (.c .ns),none⟩]]) (.seq (.seq (.reg [.seq [⟨some 5,.mv (.t 1),none⟩,⟨some 6,.bi .lss (.t 5) (.c (.i .i64 0)),none⟩]]) (.cond (.t 6) (.reg [.seq [⟨some 7,.mi 9 (.c (.s (bs [99,97,110,110,111,116,32,98,101,32,110,101,103,97,116,105,118,101]))),none⟩,⟨none,.pa (.t 7),none⟩]]) .skip)) (.seq (.seq (.reg [.seq [⟨some 8,.mv (.t 1),none⟩,⟨some 9,.mv (.t 0),none⟩,⟨some 10,.ln .c (.t 9),none⟩,⟨some 11,.mv (.t 0),none⟩,⟨some 12,.ln .l (.t 11),none⟩,⟨some 13,.bi .sub (.t 10) (.t 12),none⟩,⟨some 14,.bi .sub (.t 8) (.t 13),none⟩,⟨some 1,.mv (.t 14),none⟩]]) (.seq (.reg [.seq [⟨some 15,.mv (.t 1),none⟩,⟨some 16,.bi .gtr (.t 15) (.c (.i .i64 0)),none⟩]]) (.cond (.t 16) (.reg [.seq [⟨some 17,.mv (.t 0),none⟩,⟨some 18,.mv (.t 0),none⟩,⟨some 19,.ln .c (.t 18),none⟩,⟨some 20,.sv 2 (.t 17) none (some (.t 19)) none,none⟩,⟨some 21,.mv (.t 1),none⟩,⟨some 22,.an 2 [.i .i64 0,.i .i64 0] (.t 20) (.t 21),none⟩,⟨some 23,.mv (.t 0),none⟩,⟨some 24,.ln .l (.t 23),none⟩,⟨some 25,.sv 2 (.t 22) none (some (.t 24)) none,none⟩,⟨some 0,.mv (.t 25),none⟩]]) .skip))) (.seq (.reg [.seq [⟨some 26,.mv (.t 0),none⟩,⟨some 4,.mv (.t 26),none⟩]]) .ret)))), [.t 4]⟩
def horn_Asks.c : PFun := ⟨(.seq (.reg [.seq [⟨some 2,.bx (.t 0),none⟩,⟨some 3,.bx (.t 1),none⟩,⟨some 4,.mv (.c (.i .i64 0)),none⟩]]) (.seq (.reg [.seq [⟨some 7,.mf (.func horn_Asks_1.n) [] [.t 3],none⟩,⟨some 5,.mv (.t 7),none⟩]]) (.seq (.reg [.seq [⟨some 8,.fa 0 (.t 2),none⟩,⟨some 9,.ld false 1 (.t 8),none⟩,⟨some 10,.mv (.t 5),none⟩,⟨some 11,.ca (.c (.fn (.func slices_MinFunc_Atom.n) [] [])) [.t 9,.t 10],none⟩,⟨some 6,.al [.i .i64 0,.i .i64 0],none⟩,⟨none,.st 2 (.t 6) (.t 11),none⟩]]) (.seq (.reg [.any [⟨some 12,.ld false 1 (.t 3),none⟩,⟨some 13,.fa 0 (.t 6),none⟩,⟨some 14,.ld false 1 (.t 13),none⟩,⟨some 15,.ia 1 (.t 12) (.t 14),none⟩,⟨some 16,.ld false 1 (.t 15),none⟩,⟨some 17,.fa 1 (.t 6),none⟩,⟨some 18,.ld false 1 (.t 17),none⟩,⟨some 19,.bi .sub (.t 16) (.t 18),none⟩,⟨some 20,.fa 1 (.t 2),none⟩,⟨some 21,.fa 1 (.t 20),none⟩,⟨some 22,.ld false 1 (.t 21),none⟩] [],.seq [⟨some 23,.bi .add (.t 19) (.t 22),none⟩],.seq [⟨some 4,.mv (.t 23),none⟩]]) .ret)))), [.t 4]⟩
def slices_Repeat_int.b1 : PCode := (.seq (.seq (.reg [.seq [⟨some 34,.mv (.t 8),none⟩,⟨some 35,.mv (.t 7),none⟩,⟨some 36,.ln .l (.t 35),none⟩,⟨some 37,.bi .lss (.t 34) (.t 36),none⟩]]) (.cond (.t 37) .skip (.exit 0))) (.block 1 (.reg [.any [⟨some 38,.mv (.t 8),none⟩,⟨some 39,.mv (.t 7),none⟩,⟨some 40,.mv (.t 8),none⟩,⟨some 41,.sv 1 (.t 39) (some (.t 40)) none none,none⟩,⟨some 42,.mv (.t 7),none⟩,⟨some 43,.mv (.t 8),none⟩,⟨some 44,.sv 1 (.t 42) none (some (.t 43)) none,none⟩,⟨some 45,.cp 1 (.t 41) (.t 44),none⟩] [],.seq [⟨some 46,.bi .add (.t 38) (.t 45),none⟩],.seq [⟨some 8,.mv (.t 46),none⟩]])))
def slices_Repeat_int.c : PFun := ⟨(.seq (.reg [.seq [⟨some 4,.mv (.c .ns),none⟩]]) (.seq (.seq (.reg [.seq [⟨some 9,.mv (.t 1),none⟩,⟨some 10,.bi .lss (.t 9) (.c (.i .i64 0)),none⟩]]) (.cond (.t 10) (.reg [.seq [⟨some 11,.mi 9 (.c (.s (bs [99,97,110,110,111,116,32,98,101,32,110,101,103,97,116,105,118,101]))),none⟩,⟨none,.pa (.t 11),none⟩]]) .skip)) (.seq (.reg [.seq [⟨some 13,.mv (.t 0),none⟩,⟨some 14,.ln .l (.t 13),none⟩,⟨some 15,.ci .u64 (.t 14),none⟩,⟨some 16,.mv (.t 1),none⟩,⟨some 17,.ci .u64 (.t 16),none⟩,⟨some 18,.ca (.c (.fn (.func math_bits_Mul.n) [] [])) [.t 15,.t 17],none⟩,⟨some 12,.mv (.t 18),none⟩,⟨some 19,.ex (.t 12) 0,none⟩,⟨some 20,.ex (.t 12) 1,none⟩,⟨some 5,.mv (.t 19),none⟩,⟨some 6,.mv (.t 20),none⟩]]) (.seq (.seq (.reg [.seq [⟨some 21,.mv (.t 5),none⟩,⟨some 22,.bi .gtr (.t 21) (.c (.i .u64 0)),none⟩,⟨some 23,.mv (.t 22),none⟩,⟨some 24,.mv (.t 6),some (23,false)⟩,⟨some 25,.bi .gtr (.t 24) (.c (.i .u64 9223372036854775807)),some (23,false)⟩,⟨some 26,.pk (.t 23) (.c (.b true)) (.t 25),none⟩]]) (.cond (.t 26) (.reg [.seq [⟨some 27,.mi 9 (.c (.s (bs [116,104,101,32,114,101,115,117,108,116,32,111,102,32,40,108,101,110,40,120,41,32,42,32,99,111,117,110,116,41,32,111,118,101,114,102,108,111,119,115]))),none⟩,⟨none,.pa (.t 27),none⟩]]) .skip)) (.seq (.reg [.seq [⟨some 28,.mv (.t 6),none⟩,⟨some 29,.ci .i64 (.t 28),none⟩,⟨some 30,.mk 1 [.i .i64 0] (.t 29) (.t 29),none⟩,⟨some 7,.mv (.t 30),none⟩]]) (.seq (.reg [.seq [⟨some 31,.mv (.t 7),none⟩,⟨some 32,.mv (.t 0),none⟩,⟨some 33,.cp 1 (.t 31) (.t 32),none⟩,⟨some 8,.mv (.t 33),none⟩]]) (.seq (.block 0 (.loop slices_Repeat_int.b1)) (.seq (.reg [.seq [⟨some 47,.mv (.t 7),none⟩,⟨some 4,.mv (.t 47),none⟩]]) .ret)))))))), [.t 4]⟩
def slices_Contains_int.c : PFun := ⟨(.seq (.reg [.seq [⟨some 4,.mv (.c (.b false)),none⟩]]) (.seq (.reg [.seq [⟨some 5,.mv (.t 0),none⟩,⟨some 6,.mv (.t 1),none⟩,⟨some 7,.ca (.c (.fn (.func slices_Index_int.n) [] [])) [.t 5,.t 6],none⟩,⟨some 8,.bi .geq (.t 7) (.c (.i .i64 0)),none⟩,⟨some 4,.mv (.t 8),none⟩]]) .ret)), [.t 4]⟩
def math_bits_Mul32.c : PFun := ⟨(.seq (.reg [.seq [⟨some 4,.mv (.c (.i .u32 0)),none⟩,⟨some 5,.mv (.c (.i .u32 0)),none⟩]]) (.seq (.reg [.seq [⟨some 7,.mv (.t 0),none⟩,⟨some 8,.ci .u64 (.t 7),none⟩,⟨some 9,.mv (.t 1),none⟩,⟨some 10,.ci .u64 (.t 9),none⟩,⟨some 11,.bi .mul (.t 8) (.t 10),none⟩,⟨some 6,.mv (.t 11),none⟩]]) (.seq (.reg [.seq [⟨some 12,.mv (.t 6),none⟩,⟨some 13,.bi .shr (.t 12) (.c (.i .u64 32)),none⟩,⟨some 14,.ci .u32 (.t 13),none⟩,⟨some 15,.mv (.t 6),none⟩,⟨some 16,.ci .u32 (.t 15),none⟩,⟨some 4,.mv (.t 14),none⟩,⟨some 5,.mv (.t 16),none⟩]]) .ret))), [.t 4,.t 5]⟩
def math_bits_Mul64.c : PFun := ⟨(.seq (.reg [.seq [⟨some 4,.mv (.c (.i .u64 0)),none⟩,⟨some 5,.mv (.c (.i .u64 0)),none⟩]]) (.seq (.reg [.seq [⟨some 14,.mv (.t 0),none⟩,⟨some 15,.bi .and (.t 14) (.c (.i .u64 4294967295)),none⟩,⟨some 6,.mv (.t 15),none⟩]]) (.seq (.reg [.seq [⟨some 16,.mv (.t 0),none⟩,⟨some 17,.bi .shr (.t 16) (.c (.i .u64 32)),none⟩,⟨some 7,.mv (.t 17),none⟩]]) (.seq (.reg [.seq [⟨some 18,.mv (.t 1),none⟩,⟨some 19,.bi .and (.t 18) (.c (.i .u64 4294967295)),none⟩,⟨some 8,.mv (.t 19),none⟩]]) (.seq (.reg [.seq [⟨some 20,.mv (.t 1),none⟩,⟨some 21,.bi .shr (.t 20) (.c (.i .u64 32)),none⟩,⟨some 9,.mv (.t 21),none⟩]]) (.seq (.reg [.seq [⟨some 22,.mv (.t 6),none⟩,⟨some 23,.mv (.t 8),none⟩,⟨some 24,.bi .mul (.t 22) (.t 23),none⟩,⟨some 10,.mv (.t 24),none⟩]]) (.seq (.reg [.seq [⟨some 25,.mv (.t 7),none⟩,⟨some 26,.mv (.t 8),none⟩,⟨some 27,.bi .mul (.t 25) (.t 26),none⟩,⟨some 28,.mv (.t 10),none⟩,⟨some 29,.bi .shr (.t 28) (.c (.i .u64 32)),none⟩,⟨some 30,.bi .add (.t 27) (.t 29),none⟩,⟨some 11,.mv (.t 30),none⟩]]) (.seq (.reg [.seq [⟨some 31,.mv (.t 11),none⟩,⟨some 32,.bi .and (.t 31) (.c (.i .u64 4294967295)),none⟩,⟨some 12,.mv (.t 32),none⟩]]) (.seq (.reg [.seq [⟨some 33,.mv (.t 11),none⟩,⟨some 34,.bi .shr (.t 33) (.c (.i .u64 32)),none⟩,⟨some 13,.mv (.t 34),none⟩]]) (.seq (.reg [.seq [⟨some 35,.mv (.t 12),none⟩,⟨some 36,.mv (.t 6),none⟩,⟨some 37,.mv (.t 9),none⟩,⟨some 38,.bi .mul (.t 36) (.t 37),none⟩,⟨some 39,.bi .add (.t 35) (.t 38),none⟩,⟨some 12,.mv (.t 39),none⟩]]) (.seq (.reg [.seq [⟨some 40,.mv (.t 7),none⟩,⟨some 41,.mv (.t 9),none⟩,⟨some 42,.bi .mul (.t 40) (.t 41),none⟩,⟨some 43,.mv (.t 13),none⟩,⟨some 44,.bi .add (.t 42) (.t 43),none⟩,⟨some 45,.mv (.t 12),none⟩,⟨some 46,.bi .shr (.t 45) (.c (.i .u64 32)),none⟩,⟨some 47,.bi .add (.t 44) (.t 46),none⟩,⟨some 4,.mv (.t 47),none⟩]]) (.seq (.reg [.seq [⟨some 48,.mv (.t 0),none⟩,⟨some 49,.mv (.t 1),none⟩,⟨some 50,.bi .mul (.t 48) (.t 49),none⟩,⟨some 5,.mv (.t 50),none⟩]]) .ret)))))))))))), [.t 4,.t 5]⟩
def slices_IndexFunc_Atom.b1 : PCode := (.seq (.reg [.seq [⟨some 9,.bi .lss (.t 8) (.t 7),none⟩]]) (.seq (.cond (.t 9) .skip (.exit 0)) (.seq (.block 1 (.seq (.reg [.seq [⟨some 10,.mv (.t 8),none⟩,⟨some 5,.mv (.t 10),none⟩]]) (.seq (.reg [.seq [⟨some 11,.mv (.t 1),none⟩,⟨some 12,.mv (.t 0),none⟩,⟨some 13,.mv (.t 5),none⟩,⟨some 14,.ia 2 (.t 12) (.t 13),none⟩,⟨some 15,.ld true 2 (.t 14),none⟩,⟨some 16,.ca (.t 11) [.t 15],none⟩]]) (.cond (.t 16) (.seq (.reg [.seq [⟨some 17,.mv (.t 5),none⟩,⟨some 4,.mv (.t 17),none⟩]]) .ret) .skip)))) (.reg [.seq [⟨some 18,.bi .add (.t 8) (.c (.i .i64 1)),none⟩,⟨some 8,.mv (.t 18),none⟩]]))))
def slices_IndexFunc_Atom.c : PFun := ⟨(.seq (.reg [.seq [⟨some 4,.mv (.c (.i .i64 0)),none⟩]]) (.seq (.seq (.reg [.seq [⟨some 6,.mv (.t 0),none⟩,⟨some 7,.ln .l (.t 6),none⟩,⟨some 8,.mv (.c (.i .i64 0)),none⟩]]) (.block 0 (.loop slices_IndexFunc_Atom.b1))) (.seq (.reg [.seq [⟨some 4,.mv (.c (.i .i64 (-1))),none⟩]]) .ret))), [.t 4]⟩
def horn_Asks_1.c : PFun := ⟨(.seq (.reg [.seq [⟨some 3,.bx (.t 0),none⟩,⟨some 4,.bx (.t 1),none⟩,⟨some 5,.mv (.c (.i .i64 0)),none⟩]]) (.seq (.reg [.any [⟨some 6,.ld false 1 (.t 2),none⟩,⟨some 7,.fa 0 (.t 3),none⟩,⟨some 8,.ld false 1 (.t 7),none⟩,⟨some 9,.ia 1 (.t 6) (.t 8),none⟩,⟨some 10,.ld false 1 (.t 9),none⟩,⟨some 11,.fa 1 (.t 3),none⟩,⟨some 12,.ld false 1 (.t 11),none⟩,⟨some 13,.bi .sub (.t 10) (.t 12),none⟩,⟨some 14,.ld false 1 (.t 2),none⟩,⟨some 15,.fa 0 (.t 4),none⟩,⟨some 16,.ld false 1 (.t 15),none⟩,⟨some 17,.ia 1 (.t 14) (.t 16),none⟩,⟨some 18,.ld false 1 (.t 17),none⟩,⟨some 19,.fa 1 (.t 4),none⟩,⟨some 20,.ld false 1 (.t 19),none⟩,⟨some 21,.bi .sub (.t 18) (.t 20),none⟩] [],.seq [⟨some 22,.bi .sub (.t 13) (.t 21),none⟩],.seq [⟨some 5,.mv (.t 22),none⟩]]) .ret)), [.t 5]⟩
def slices_MinFunc_Atom.b1 : PCode := (.seq (.seq (.reg [.seq [⟨some 14,.mv (.t 6),none⟩,⟨some 15,.mv (.t 0),none⟩,⟨some 16,.ln .l (.t 15),none⟩,⟨some 17,.bi .lss (.t 14) (.t 16),none⟩]]) (.cond (.t 17) .skip (.exit 0))) (.seq (.block 1 (.seq (.reg [.any [⟨some 20,.mv (.t 1),none⟩,⟨some 21,.mv (.t 0),none⟩,⟨some 22,.mv (.t 6),none⟩,⟨some 23,.ia 2 (.t 21) (.t 22),none⟩,⟨some 24,.ld true 2 (.t 23),none⟩,⟨some 25,.ld true 2 (.t 5),none⟩] [],.seq [⟨some 26,.ca (.t 20) [.t 24,.t 25],none⟩],.seq [⟨some 27,.bi .lss (.t 26) (.c (.i .i64 0)),none⟩]]) (.cond (.t 27) (.reg [.seq [⟨some 28,.mv (.t 0),none⟩,⟨some 29,.mv (.t 6),none⟩,⟨some 30,.ia 2 (.t 28) (.t 29),none⟩,⟨some 31,.ld true 2 (.t 30),none⟩,⟨none,.st 2 (.t 5) (.t 31),none⟩]]) .skip))) (.reg [.seq [⟨some 18,.mv (.t 6),none⟩,⟨some 19,.bi .add (.t 18) (.c (.i .i64 1)),none⟩,⟨some 6,.mv (.t 19),none⟩]])))
def slices_MinFunc_Atom.c : PFun := ⟨(.seq (.reg [.seq [⟨some 4,.al [.i .i64 0,.i .i64 0],none⟩]]) (.seq (.seq (.reg [.seq [⟨some 7,.mv (.t 0),none⟩,⟨some 8,.ln .l (.t 7),none⟩,⟨some 9,.bi .lss (.t 8) (.c (.i .i64 1)),none⟩]]) (.cond (.t 9) (.reg [.seq [⟨some 10,.mi 9 (.c (.s (bs [115,108,105,99,101,115,46,77,105,110,70,117,110,99,58,32,101,109,112,116,121,32,108,105,115,116]))),none⟩,⟨none,.pa (.t 10),none⟩]]) .skip)) (.seq (.reg [.seq [⟨some 11,.mv (.t 0),none⟩,⟨some 12,.ia 2 (.t 11) (.c (.i .i64 0)),none⟩,⟨some 13,.ld true 2 (.t 12),none⟩,⟨some 5,.al [.i .i64 0,.i .i64 0],none⟩,⟨none,.st 2 (.t 5) (.t 13),none⟩]]) (.seq (.seq (.reg [.seq [⟨some 6,.mv (.c (.i .i64 1)),none⟩]]) (.block 0 (.loop slices_MinFunc_Atom.b1))) (.seq (.reg [.seq [⟨some 32,.ld true 2 (.t 5),none⟩,⟨none,.st 2 (.t 4) (.t 32),none⟩]]) .ret))))), [.c 4 true 2]⟩
def slices_Index_int.b1 : PCode := (.seq (.reg [.seq [⟨some 9,.bi .lss (.t 8) (.t 7),none⟩]]) (.seq (.cond (.t 9) .skip (.exit 0)) (.seq (.block 1 (.seq (.reg [.seq [⟨some 10,.mv (.t 8),none⟩,⟨some 5,.mv (.t 10),none⟩]]) (.seq (.reg [.seq [⟨some 11,.mv (.t 1),none⟩,⟨some 12,.mv (.t 0),none⟩,⟨some 13,.mv (.t 5),none⟩,⟨some 14,.ia 1 (.t 12) (.t 13),none⟩,⟨some 15,.ld false 1 (.t 14),none⟩,⟨some 16,.bi .eql (.t 11) (.t 15),none⟩]]) (.cond (.t 16) (.seq (.reg [.seq [⟨some 17,.mv (.t 5),none⟩,⟨some 4,.mv (.t 17),none⟩]]) .ret) .skip)))) (.reg [.seq [⟨some 18,.bi .add (.t 8) (.c (.i .i64 1)),none⟩,⟨some 8,.mv (.t 18),none⟩]]))))
def slices_Index_int.c : PFun := ⟨(.seq (.reg [.seq [⟨some 4,.mv (.c (.i .i64 0)),none⟩]]) (.seq (.seq (.reg [.seq [⟨some 6,.mv (.t 0),none⟩,⟨some 7,.ln .l (.t 6),none⟩,⟨some 8,.mv (.c (.i .i64 0)),none⟩]]) (.block 0 (.loop slices_Index_int.b1))) (.seq (.reg [.seq [⟨some 4,.mv (.c (.i .i64 (-1))),none⟩]]) .ret))), [.t 4]⟩
def slices_Backward_Term.c : PFun := ⟨(.seq (.reg [.seq [⟨some 1,.bx (.t 0),none⟩,⟨some 2,.mv (.c .nf),none⟩]]) (.seq (.reg [.seq [⟨some 3,.mf (.func slices_Backward_Term_1.n) [] [.t 1],none⟩,⟨some 2,.mv (.t 3),none⟩]]) .ret)), [.t 2]⟩
def slices_Backward_Term_1.b1 : PCode := (.seq (.seq (.reg [.seq [⟨some 7,.mv (.t 3),none⟩,⟨some 8,.bi .geq (.t 7) (.c (.i .i64 0)),none⟩]]) (.cond (.t 8) .skip (.exit 0))) (.seq (.block 1 (.seq (.reg [.seq [⟨some 11,.mv (.t 0),none⟩,⟨some 12,.mv (.t 3),none⟩,⟨some 13,.ld false 1 (.t 1),none⟩,⟨some 14,.mv (.t 3),none⟩,⟨some 15,.ia 4 (.t 13) (.t 14),none⟩,⟨some 16,.ld true 4 (.t 15),none⟩,⟨some 17,.ca (.t 11) [.t 12,.t 16],none⟩,⟨some 18,.un .not (.t 17),none⟩]]) (.cond (.t 18) .ret .skip))) (.reg [.seq [⟨some 9,.mv (.t 3),none⟩,⟨some 10,.bi .sub (.t 9) (.c (.i .i64 1)),none⟩,⟨some 3,.mv (.t 10),none⟩]])))
def slices_Backward_Term_1.c : PFun := ⟨(.seq (.reg [.seq [⟨some 4,.ld false 1 (.t 1),none⟩,⟨some 5,.ln .l (.t 4),none⟩,⟨some 6,.bi .sub (.t 5) (.c (.i .i64 1)),none⟩,⟨some 3,.mv (.t 6),none⟩]]) (.block 0 (.loop slices_Backward_Term_1.b1))), []⟩
def ctx : Ctx where
  fns := fun f => match f with
    | 4 => some top_TopLevels.c
    | 12 => some law02_Maker_Level.c
    | 13 => some law12_Cons.c
    | 14 => some under_Leq.c
    | 15 => some level_Eval.c
    | 16 => some top_holds.c
    | 20 => some level_Num.c
    | 22 => some solve_Solve.c
    | 26 => some slices_ContainsFunc_Decl.c
    | 38 => some law02_Maker_Pick.c
    | 39 => some under_Right.c
    | 40 => some level_Right.c
    | 41 => some under_first.c
    | 42 => some under_Leq_1.c
    | 43 => some under_situation_atoms.c
    | 44 => some under_situation_values.c
    | 45 => some level_Eval_1.c
    | 46 => some slices_ContainsFunc_int.c
    | 47 => some level_value.c
    | 58 => some horn_Right.c
    | 59 => some solve_run.c
    | 60 => some solve_limit.c
    | 61 => some leq_All.c
    | 62 => some flat_Flatten.c
    | 63 => some flat_Leq.c
    | 65 => some slices_EqualFunc_Level.c
    | 66 => some level_Same.c
    | 67 => some slices_EqualFunc_Term.c
    | 69 => some slices_IndexFunc_Decl.c
    | 73 => some slices_ContainsFunc_Con.c
    | 90 => some under_Right_1.c
    | 91 => some level_nodes.c
    | 92 => some level_right.c
    | 93 => some slices_Collect_Clause.c
    | 94 => some under_situation_clauses.c
    | 95 => some slices_IndexFunc_int.c
    | 96 => some level_kinds.c
    | 100 => some under_Possible.c
    | 103 => some slices_Concat_Con.c
    | 106 => some slices_EqualFunc_Con.c
    | 107 => some horn_Right_1.c
    | 108 => some slices_ContainsFunc_Clause.c
    | 109 => some horn_atoms.c
    | 110 => some solve_of.c
    | 111 => some solve_model_rounds.c
    | 112 => some slices_Max_int.c
    | 114 => some horn_Most.c
    | 115 => some leq_All_1.c
    | 116 => some flat_of.c
    | 117 => some flat_Top.c
    | 118 => some flat_Right.c
    | 121 => some slices_IndexFunc_Con.c
    | 145 => some level_right_1.c
    | 146 => some level_named.c
    | 147 => some slices_ContainsFunc_Level.c
    | 148 => some slices_AppendSeq_Clause.c
    | 149 => some under_situation_clauses_1.c
    | 150 => some level_kinds_1.c
    | 151 => some level_kinds_2.c
    | 152 => some level_kinds_3.c
    | 153 => some level_kinds_4.c
    | 154 => some level_imax.c
    | 155 => some level_kinds_5.c
    | 156 => some level_kinds_6.c
    | 163 => some under_Possible_1.c
    | 170 => some slices_DeleteFunc_Con.c
    | 174 => some slices_Repeat_Level.c
    | 176 => some slices_Grow_Con.c
    | 177 => some slices_Concat_Level.c
    | 180 => some slices_IndexFunc_Clause.c
    | 181 => some horn_atoms_1.c
    | 182 => some slices_Concat_Atom.c
    | 183 => some solve_model_rounds_1.c
    | 184 => some solve_model_round.c
    | 185 => some flat_plain.c
    | 186 => some flat_succ.c
    | 187 => some flat_join.c
    | 188 => some flat_Right_1.c
    | 227 => some slices_IndexFunc_Level.c
    | 243 => some math_bits_Mul.c
    | 246 => some slices_ContainsFunc_Atom.c
    | 247 => some slices_Grow_Level.c
    | 249 => some slices_Grow_Atom.c
    | 250 => some horn_Asks.c
    | 251 => some slices_Repeat_int.c
    | 280 => some slices_Contains_int.c
    | 289 => some math_bits_Mul32.c
    | 290 => some math_bits_Mul64.c
    | 291 => some slices_IndexFunc_Atom.c
    | 295 => some horn_Asks_1.c
    | 296 => some slices_MinFunc_Atom.c
    | 320 => some slices_Index_int.c
    | 322 => some slices_Backward_Term.c
    | 350 => some slices_Backward_Term_1.c
    | _ => none
  opn := fun f => match f with
    | 12 => true
    | 38 => true
    | 116 => true
    | 186 => true
    | 187 => true
    | 185 => true
    | 61 => true
    | 251 => true
    | 249 => true
    | 111 => true
    | 93 => true
    | 148 => true
    | 41 => true
    | 42 => true
    | 163 => true
    | 13 => true
    | _ => false
  prim := fun f => match f with
    | 48 => some (cloneH 11)
    | 113 => some (cloneH 1)
    | 171 => some (cloneH 6)
    | 362 => some (cloneH 4)
    | 6 => some (constH (.b true))
    | _ => none
  frz := fun f => match f with
    | 44 => true
    | 14 => true
    | _ => false

@[simp ↓] theorem top_TopLevels.fz : ctx.frz 4 = false := rfl
@[simp ↓] theorem top_alive.fz : ctx.frz 6 = false := rfl
@[simp] theorem top_alive.pr {first cap args : List V} {m : Sto} {x : Nat} {K : CR → Sto → Nat → Prop} : CallX ctx (.fn (.func 6) first cap) args m x K = opK (constH (.b true) (first ++ args ++ cap) m x) fun v ws => K (.ret v) (m.app ws) (x + 1) := CallX_pr rfl
@[simp ↓] theorem law02_Maker_Level.fz : ctx.frz 12 = false := rfl
@[simp] theorem law02_Maker_Level.op : ctx.opn 12 = true := rfl
@[simp ↓] theorem law12_Cons.fz : ctx.frz 13 = false := rfl
@[simp] theorem law12_Cons.op : ctx.opn 13 = true := rfl
@[simp ↓] theorem under_Leq.fz : ctx.frz 14 = true := rfl
theorem under_Leq.fr {K} (h : FrK (freezeL m (u ++ z ++ y)) (cfK ctx 14 K m x) False) : CallX ctx (.fn (.func 14) u y) z m x K := CallX_fr rfl rfl rfl h
@[simp ↓] theorem level_Eval.fz : ctx.frz 15 = false := rfl
@[simp] theorem level_Eval.cl {K} : CallX ctx (.fn (.func 15) u y) z m x K = FrK (freezeL m (u ++ z ++ y)) (clK ctx 15 K m x) (wpCall ctx (.fn (.func 15) u y) z m x K) := CallX_cl rfl rfl
@[simp ↓] theorem top_holds.fz : ctx.frz 16 = false := rfl
@[simp] theorem top_holds.cl {K} : CallX ctx (.fn (.func 16) u y) z m x K = FrK (freezeL m (u ++ z ++ y)) (clK ctx 16 K m x) (wpCall ctx (.fn (.func 16) u y) z m x K) := CallX_cl rfl rfl
@[simp ↓] theorem level_Num.fz : ctx.frz 20 = false := rfl
@[simp ↓] theorem solve_Solve.fz : ctx.frz 22 = false := rfl
@[simp] theorem solve_Solve.cl {K} : CallX ctx (.fn (.func 22) u y) z m x K = FrK (freezeL m (u ++ z ++ y)) (clK ctx 22 K m x) (wpCall ctx (.fn (.func 22) u y) z m x K) := CallX_cl rfl rfl
@[simp ↓] theorem slices_ContainsFunc_Decl.fz : ctx.frz 26 = false := rfl
@[simp ↓] theorem law02_Maker_Pick.fz : ctx.frz 38 = false := rfl
@[simp] theorem law02_Maker_Pick.op : ctx.opn 38 = true := rfl
@[simp ↓] theorem under_Right.fz : ctx.frz 39 = false := rfl
@[simp] theorem under_Right.cl {K} : CallX ctx (.fn (.func 39) u y) z m x K = FrK (freezeL m (u ++ z ++ y)) (clK ctx 39 K m x) (wpCall ctx (.fn (.func 39) u y) z m x K) := CallX_cl rfl rfl
@[simp ↓] theorem level_Right.fz : ctx.frz 40 = false := rfl
@[simp] theorem level_Right.cl {K} : CallX ctx (.fn (.func 40) u y) z m x K = FrK (freezeL m (u ++ z ++ y)) (clK ctx 40 K m x) (wpCall ctx (.fn (.func 40) u y) z m x K) := CallX_cl rfl rfl
@[simp ↓] theorem under_first.fz : ctx.frz 41 = false := rfl
@[simp] theorem under_first.op : ctx.opn 41 = true := rfl
@[simp ↓] theorem under_Leq_1.fz : ctx.frz 42 = false := rfl
@[simp] theorem under_Leq_1.op : ctx.opn 42 = true := rfl
@[simp ↓] theorem under_situation_atoms.fz : ctx.frz 43 = false := rfl
@[simp] theorem under_situation_atoms.cl {K} : CallX ctx (.fn (.func 43) u y) z m x K = FrK (freezeL m (u ++ z ++ y)) (clK ctx 43 K m x) (wpCall ctx (.fn (.func 43) u y) z m x K) := CallX_cl rfl rfl
@[simp ↓] theorem under_situation_values.fz : ctx.frz 44 = true := rfl
theorem under_situation_values.fr {K} (h : FrK (freezeL m (u ++ z ++ y)) (cfK ctx 44 K m x) False) : CallX ctx (.fn (.func 44) u y) z m x K := CallX_fr rfl rfl rfl h
@[simp ↓] theorem level_Eval_1.fz : ctx.frz 45 = false := rfl
@[simp ↓] theorem slices_ContainsFunc_int.fz : ctx.frz 46 = false := rfl
@[simp] theorem slices_ContainsFunc_int.cl {K} : CallX ctx (.fn (.func 46) u y) z m x K = FrK (freezeL m (u ++ z ++ y)) (clK ctx 46 K m x) (wpCall ctx (.fn (.func 46) u y) z m x K) := CallX_cl rfl rfl
@[simp ↓] theorem level_value.fz : ctx.frz 47 = false := rfl
@[simp] theorem level_value.cl {K} : CallX ctx (.fn (.func 47) u y) z m x K = FrK (freezeL m (u ++ z ++ y)) (clK ctx 47 K m x) (wpCall ctx (.fn (.func 47) u y) z m x K) := CallX_cl rfl rfl
@[simp ↓] theorem slices_Clone_Decl.fz : ctx.frz 48 = false := rfl
@[simp ↓] theorem horn_Right.fz : ctx.frz 58 = false := rfl
@[simp] theorem horn_Right.cl {K} : CallX ctx (.fn (.func 58) u y) z m x K = FrK (freezeL m (u ++ z ++ y)) (clK ctx 58 K m x) (wpCall ctx (.fn (.func 58) u y) z m x K) := CallX_cl rfl rfl
@[simp ↓] theorem solve_run.fz : ctx.frz 59 = false := rfl
@[simp] theorem solve_run.cl {K} : CallX ctx (.fn (.func 59) u y) z m x K = FrK (freezeL m (u ++ z ++ y)) (clK ctx 59 K m x) (wpCall ctx (.fn (.func 59) u y) z m x K) := CallX_cl rfl rfl
@[simp ↓] theorem solve_limit.fz : ctx.frz 60 = false := rfl
@[simp] theorem solve_limit.cq {K} : CallQ ctx (.fn (.func 60) u y) z m x K = FrK (freezeL m (u ++ z ++ y)) (cqK ctx 60 K m x) (wpQuiet ctx (.fn (.func 60) u y) z m x K) := CallQ_cl rfl rfl
@[simp ↓] theorem leq_All.fz : ctx.frz 61 = false := rfl
@[simp] theorem leq_All.op : ctx.opn 61 = true := rfl
@[simp ↓] theorem flat_Flatten.fz : ctx.frz 62 = false := rfl
@[simp] theorem flat_Flatten.cl {K} : CallX ctx (.fn (.func 62) u y) z m x K = FrK (freezeL m (u ++ z ++ y)) (clK ctx 62 K m x) (wpCall ctx (.fn (.func 62) u y) z m x K) := CallX_cl rfl rfl
@[simp ↓] theorem flat_Leq.fz : ctx.frz 63 = false := rfl
@[simp ↓] theorem slices_EqualFunc_Level.fz : ctx.frz 65 = false := rfl
@[simp ↓] theorem level_Same.fz : ctx.frz 66 = false := rfl
@[simp ↓] theorem slices_EqualFunc_Term.fz : ctx.frz 67 = false := rfl
@[simp ↓] theorem slices_IndexFunc_Decl.fz : ctx.frz 69 = false := rfl
@[simp ↓] theorem slices_ContainsFunc_Con.fz : ctx.frz 73 = false := rfl
@[simp] theorem slices_ContainsFunc_Con.cl {K} : CallX ctx (.fn (.func 73) u y) z m x K = FrK (freezeL m (u ++ z ++ y)) (clK ctx 73 K m x) (wpCall ctx (.fn (.func 73) u y) z m x K) := CallX_cl rfl rfl
@[simp ↓] theorem under_Right_1.fz : ctx.frz 90 = false := rfl
@[simp ↓] theorem level_nodes.fz : ctx.frz 91 = false := rfl
@[simp] theorem level_nodes.cl {K} : CallX ctx (.fn (.func 91) u y) z m x K = FrK (freezeL m (u ++ z ++ y)) (clK ctx 91 K m x) (wpCall ctx (.fn (.func 91) u y) z m x K) := CallX_cl rfl rfl
@[simp ↓] theorem level_right.fz : ctx.frz 92 = false := rfl
@[simp] theorem level_right.cl {K} : CallX ctx (.fn (.func 92) u y) z m x K = FrK (freezeL m (u ++ z ++ y)) (clK ctx 92 K m x) (wpCall ctx (.fn (.func 92) u y) z m x K) := CallX_cl rfl rfl
@[simp ↓] theorem slices_Collect_Clause.fz : ctx.frz 93 = false := rfl
@[simp] theorem slices_Collect_Clause.op : ctx.opn 93 = true := rfl
@[simp ↓] theorem under_situation_clauses.fz : ctx.frz 94 = false := rfl
@[simp] theorem under_situation_clauses.cl {K} : CallX ctx (.fn (.func 94) u y) z m x K = FrK (freezeL m (u ++ z ++ y)) (clK ctx 94 K m x) (wpCall ctx (.fn (.func 94) u y) z m x K) := CallX_cl rfl rfl
@[simp ↓] theorem slices_IndexFunc_int.fz : ctx.frz 95 = false := rfl
@[simp] theorem slices_IndexFunc_int.cl {K} : CallX ctx (.fn (.func 95) u y) z m x K = FrK (freezeL m (u ++ z ++ y)) (clK ctx 95 K m x) (wpCall ctx (.fn (.func 95) u y) z m x K) := CallX_cl rfl rfl
@[simp ↓] theorem level_kinds.fz : ctx.frz 96 = false := rfl
@[simp] theorem level_kinds.cq {K} : CallQ ctx (.fn (.func 96) u y) z m x K = FrK (freezeL m (u ++ z ++ y)) (cqK ctx 96 K m x) (wpQuiet ctx (.fn (.func 96) u y) z m x K) := CallQ_cl rfl rfl
@[simp ↓] theorem under_Possible.fz : ctx.frz 100 = false := rfl
@[simp ↓] theorem slices_Concat_Con.fz : ctx.frz 103 = false := rfl
@[simp ↓] theorem slices_EqualFunc_Con.fz : ctx.frz 106 = false := rfl
@[simp ↓] theorem horn_Right_1.fz : ctx.frz 107 = false := rfl
@[simp ↓] theorem slices_ContainsFunc_Clause.fz : ctx.frz 108 = false := rfl
@[simp] theorem slices_ContainsFunc_Clause.cl {K} : CallX ctx (.fn (.func 108) u y) z m x K = FrK (freezeL m (u ++ z ++ y)) (clK ctx 108 K m x) (wpCall ctx (.fn (.func 108) u y) z m x K) := CallX_cl rfl rfl
@[simp ↓] theorem horn_atoms.fz : ctx.frz 109 = false := rfl
@[simp] theorem horn_atoms.cl {K} : CallX ctx (.fn (.func 109) u y) z m x K = FrK (freezeL m (u ++ z ++ y)) (clK ctx 109 K m x) (wpCall ctx (.fn (.func 109) u y) z m x K) := CallX_cl rfl rfl
@[simp ↓] theorem solve_of.fz : ctx.frz 110 = false := rfl
@[simp] theorem solve_of.cl {K} : CallX ctx (.fn (.func 110) u y) z m x K = FrK (freezeL m (u ++ z ++ y)) (clK ctx 110 K m x) (wpCall ctx (.fn (.func 110) u y) z m x K) := CallX_cl rfl rfl
@[simp ↓] theorem solve_model_rounds.fz : ctx.frz 111 = false := rfl
@[simp] theorem solve_model_rounds.op : ctx.opn 111 = true := rfl
@[simp ↓] theorem slices_Max_int.fz : ctx.frz 112 = false := rfl
@[simp] theorem slices_Max_int.cl {K} : CallX ctx (.fn (.func 112) u y) z m x K = FrK (freezeL m (u ++ z ++ y)) (clK ctx 112 K m x) (wpCall ctx (.fn (.func 112) u y) z m x K) := CallX_cl rfl rfl
@[simp] theorem slices_Max_int.cq {K} : CallQ ctx (.fn (.func 112) u y) z m x K = FrK (freezeL m (u ++ z ++ y)) (cqK ctx 112 K m x) (wpQuiet ctx (.fn (.func 112) u y) z m x K) := CallQ_cl rfl rfl
@[simp ↓] theorem slices_Clone_int.fz : ctx.frz 113 = false := rfl
@[simp] theorem slices_Clone_int.pq {first cap args : List V} {m : Sto} {x : Nat} {K : QR → Prop} : CallQ ctx (.fn (.func 113) first cap) args m x K = opK (cloneH 1 (first ++ args ++ cap) m x) fun v ws => K ⟨v, ws, x :: (first ++ args ++ cap).flatMap refOf, x + 1, false⟩ := CallQ_pr rfl
@[simp ↓] theorem horn_Most.fz : ctx.frz 114 = false := rfl
@[simp] theorem horn_Most.cl {K} : CallX ctx (.fn (.func 114) u y) z m x K = FrK (freezeL m (u ++ z ++ y)) (clK ctx 114 K m x) (wpCall ctx (.fn (.func 114) u y) z m x K) := CallX_cl rfl rfl
@[simp ↓] theorem leq_All_1.fz : ctx.frz 115 = false := rfl
@[simp ↓] theorem flat_of.fz : ctx.frz 116 = false := rfl
@[simp] theorem flat_of.op : ctx.opn 116 = true := rfl
@[simp ↓] theorem flat_Top.fz : ctx.frz 117 = false := rfl
@[simp] theorem flat_Top.cl {K} : CallX ctx (.fn (.func 117) u y) z m x K = FrK (freezeL m (u ++ z ++ y)) (clK ctx 117 K m x) (wpCall ctx (.fn (.func 117) u y) z m x K) := CallX_cl rfl rfl
@[simp ↓] theorem flat_Right.fz : ctx.frz 118 = false := rfl
@[simp ↓] theorem slices_IndexFunc_Con.fz : ctx.frz 121 = false := rfl
@[simp] theorem slices_IndexFunc_Con.cl {K} : CallX ctx (.fn (.func 121) u y) z m x K = FrK (freezeL m (u ++ z ++ y)) (clK ctx 121 K m x) (wpCall ctx (.fn (.func 121) u y) z m x K) := CallX_cl rfl rfl
@[simp ↓] theorem level_right_1.fz : ctx.frz 145 = false := rfl
@[simp ↓] theorem level_named.fz : ctx.frz 146 = false := rfl
@[simp] theorem level_named.cl {K} : CallX ctx (.fn (.func 146) u y) z m x K = FrK (freezeL m (u ++ z ++ y)) (clK ctx 146 K m x) (wpCall ctx (.fn (.func 146) u y) z m x K) := CallX_cl rfl rfl
@[simp ↓] theorem slices_ContainsFunc_Level.fz : ctx.frz 147 = false := rfl
@[simp] theorem slices_ContainsFunc_Level.cl {K} : CallX ctx (.fn (.func 147) u y) z m x K = FrK (freezeL m (u ++ z ++ y)) (clK ctx 147 K m x) (wpCall ctx (.fn (.func 147) u y) z m x K) := CallX_cl rfl rfl
@[simp ↓] theorem slices_AppendSeq_Clause.fz : ctx.frz 148 = false := rfl
@[simp] theorem slices_AppendSeq_Clause.op : ctx.opn 148 = true := rfl
@[simp ↓] theorem under_situation_clauses_1.fz : ctx.frz 149 = false := rfl
@[simp ↓] theorem level_kinds_1.fz : ctx.frz 150 = false := rfl
@[simp] theorem level_kinds_1.cl {K} : CallX ctx (.fn (.func 150) u y) z m x K = FrK (freezeL m (u ++ z ++ y)) (clK ctx 150 K m x) (wpCall ctx (.fn (.func 150) u y) z m x K) := CallX_cl rfl rfl
@[simp ↓] theorem level_kinds_2.fz : ctx.frz 151 = false := rfl
@[simp] theorem level_kinds_2.cl {K} : CallX ctx (.fn (.func 151) u y) z m x K = FrK (freezeL m (u ++ z ++ y)) (clK ctx 151 K m x) (wpCall ctx (.fn (.func 151) u y) z m x K) := CallX_cl rfl rfl
@[simp ↓] theorem level_kinds_3.fz : ctx.frz 152 = false := rfl
@[simp] theorem level_kinds_3.cl {K} : CallX ctx (.fn (.func 152) u y) z m x K = FrK (freezeL m (u ++ z ++ y)) (clK ctx 152 K m x) (wpCall ctx (.fn (.func 152) u y) z m x K) := CallX_cl rfl rfl
@[simp ↓] theorem level_kinds_4.fz : ctx.frz 153 = false := rfl
@[simp] theorem level_kinds_4.cl {K} : CallX ctx (.fn (.func 153) u y) z m x K = FrK (freezeL m (u ++ z ++ y)) (clK ctx 153 K m x) (wpCall ctx (.fn (.func 153) u y) z m x K) := CallX_cl rfl rfl
@[simp ↓] theorem level_imax.fz : ctx.frz 154 = false := rfl
@[simp] theorem level_imax.cl {K} : CallX ctx (.fn (.func 154) u y) z m x K = FrK (freezeL m (u ++ z ++ y)) (clK ctx 154 K m x) (wpCall ctx (.fn (.func 154) u y) z m x K) := CallX_cl rfl rfl
@[simp ↓] theorem level_kinds_5.fz : ctx.frz 155 = false := rfl
@[simp] theorem level_kinds_5.cl {K} : CallX ctx (.fn (.func 155) u y) z m x K = FrK (freezeL m (u ++ z ++ y)) (clK ctx 155 K m x) (wpCall ctx (.fn (.func 155) u y) z m x K) := CallX_cl rfl rfl
@[simp ↓] theorem level_kinds_6.fz : ctx.frz 156 = false := rfl
@[simp] theorem level_kinds_6.cl {K} : CallX ctx (.fn (.func 156) u y) z m x K = FrK (freezeL m (u ++ z ++ y)) (clK ctx 156 K m x) (wpCall ctx (.fn (.func 156) u y) z m x K) := CallX_cl rfl rfl
@[simp ↓] theorem under_Possible_1.fz : ctx.frz 163 = false := rfl
@[simp] theorem under_Possible_1.op : ctx.opn 163 = true := rfl
@[simp ↓] theorem slices_DeleteFunc_Con.fz : ctx.frz 170 = false := rfl
@[simp ↓] theorem slices_Clone_Con.fz : ctx.frz 171 = false := rfl
@[simp ↓] theorem slices_Repeat_Level.fz : ctx.frz 174 = false := rfl
@[simp ↓] theorem slices_Grow_Con.fz : ctx.frz 176 = false := rfl
@[simp ↓] theorem slices_Concat_Level.fz : ctx.frz 177 = false := rfl
@[simp ↓] theorem slices_IndexFunc_Clause.fz : ctx.frz 180 = false := rfl
@[simp] theorem slices_IndexFunc_Clause.cl {K} : CallX ctx (.fn (.func 180) u y) z m x K = FrK (freezeL m (u ++ z ++ y)) (clK ctx 180 K m x) (wpCall ctx (.fn (.func 180) u y) z m x K) := CallX_cl rfl rfl
@[simp ↓] theorem horn_atoms_1.fz : ctx.frz 181 = false := rfl
@[simp ↓] theorem slices_Concat_Atom.fz : ctx.frz 182 = false := rfl
@[simp] theorem slices_Concat_Atom.cl {K} : CallX ctx (.fn (.func 182) u y) z m x K = FrK (freezeL m (u ++ z ++ y)) (clK ctx 182 K m x) (wpCall ctx (.fn (.func 182) u y) z m x K) := CallX_cl rfl rfl
@[simp ↓] theorem solve_model_rounds_1.fz : ctx.frz 183 = false := rfl
@[simp ↓] theorem solve_model_round.fz : ctx.frz 184 = false := rfl
@[simp] theorem solve_model_round.cl {K} : CallX ctx (.fn (.func 184) u y) z m x K = FrK (freezeL m (u ++ z ++ y)) (clK ctx 184 K m x) (wpCall ctx (.fn (.func 184) u y) z m x K) := CallX_cl rfl rfl
@[simp ↓] theorem flat_plain.fz : ctx.frz 185 = false := rfl
@[simp] theorem flat_plain.op : ctx.opn 185 = true := rfl
@[simp ↓] theorem flat_succ.fz : ctx.frz 186 = false := rfl
@[simp] theorem flat_succ.op : ctx.opn 186 = true := rfl
@[simp ↓] theorem flat_join.fz : ctx.frz 187 = false := rfl
@[simp] theorem flat_join.op : ctx.opn 187 = true := rfl
@[simp ↓] theorem flat_Right_1.fz : ctx.frz 188 = false := rfl
@[simp ↓] theorem slices_IndexFunc_Level.fz : ctx.frz 227 = false := rfl
@[simp] theorem slices_IndexFunc_Level.cl {K} : CallX ctx (.fn (.func 227) u y) z m x K = FrK (freezeL m (u ++ z ++ y)) (clK ctx 227 K m x) (wpCall ctx (.fn (.func 227) u y) z m x K) := CallX_cl rfl rfl
@[simp ↓] theorem math_bits_Mul.fz : ctx.frz 243 = false := rfl
@[simp] theorem math_bits_Mul.cl {K} : CallX ctx (.fn (.func 243) u y) z m x K = FrK (freezeL m (u ++ z ++ y)) (clK ctx 243 K m x) (wpCall ctx (.fn (.func 243) u y) z m x K) := CallX_cl rfl rfl
@[simp ↓] theorem slices_ContainsFunc_Atom.fz : ctx.frz 246 = false := rfl
@[simp ↓] theorem slices_Grow_Level.fz : ctx.frz 247 = false := rfl
@[simp ↓] theorem slices_Grow_Atom.fz : ctx.frz 249 = false := rfl
@[simp] theorem slices_Grow_Atom.op : ctx.opn 249 = true := rfl
@[simp ↓] theorem horn_Asks.fz : ctx.frz 250 = false := rfl
@[simp] theorem horn_Asks.cq {K} : CallQ ctx (.fn (.func 250) u y) z m x K = FrK (freezeL m (u ++ z ++ y)) (cqK ctx 250 K m x) (wpQuiet ctx (.fn (.func 250) u y) z m x K) := CallQ_cl rfl rfl
@[simp ↓] theorem slices_Repeat_int.fz : ctx.frz 251 = false := rfl
@[simp] theorem slices_Repeat_int.op : ctx.opn 251 = true := rfl
@[simp ↓] theorem slices_Contains_int.fz : ctx.frz 280 = false := rfl
@[simp ↓] theorem math_bits_Mul32.fz : ctx.frz 289 = false := rfl
@[simp ↓] theorem math_bits_Mul64.fz : ctx.frz 290 = false := rfl
@[simp] theorem math_bits_Mul64.cl {K} : CallX ctx (.fn (.func 290) u y) z m x K = FrK (freezeL m (u ++ z ++ y)) (clK ctx 290 K m x) (wpCall ctx (.fn (.func 290) u y) z m x K) := CallX_cl rfl rfl
@[simp ↓] theorem slices_IndexFunc_Atom.fz : ctx.frz 291 = false := rfl
@[simp ↓] theorem horn_Asks_1.fz : ctx.frz 295 = false := rfl
@[simp ↓] theorem slices_MinFunc_Atom.fz : ctx.frz 296 = false := rfl
@[simp] theorem slices_MinFunc_Atom.cl {K} : CallX ctx (.fn (.func 296) u y) z m x K = FrK (freezeL m (u ++ z ++ y)) (clK ctx 296 K m x) (wpCall ctx (.fn (.func 296) u y) z m x K) := CallX_cl rfl rfl
@[simp ↓] theorem slices_Index_int.fz : ctx.frz 320 = false := rfl
@[simp ↓] theorem slices_Backward_Term.fz : ctx.frz 322 = false := rfl
@[simp ↓] theorem slices_Backward_Term_1.fz : ctx.frz 350 = false := rfl
@[simp ↓] theorem slices_Clone_Term.fz : ctx.frz 362 = false := rfl
set_option maxRecDepth 100000 in
theorem top_TopLevels.k : compF Go.Proofs.Tryz.prog Go.Proofs.Tryz.f4 = some top_TopLevels.c := by kernel_rfl
theorem top_TopLevels.f : ctx.fns 4 = some top_TopLevels.c := rfl
set_option maxRecDepth 100000 in
theorem law02_Maker_Level.k : compF Go.Proofs.Tryz.prog Go.Proofs.Tryz.f12 = some law02_Maker_Level.c := by kernel_rfl
theorem law02_Maker_Level.f : ctx.fns 12 = some law02_Maker_Level.c := rfl
set_option maxRecDepth 100000 in
theorem law12_Cons.k : compF Go.Proofs.Tryz.prog Go.Proofs.Tryz.f13 = some law12_Cons.c := by kernel_rfl
theorem law12_Cons.f : ctx.fns 13 = some law12_Cons.c := rfl
set_option maxRecDepth 100000 in
theorem under_Leq.k : compF Go.Proofs.Tryz.prog Go.Proofs.Tryz.f14 = some under_Leq.c := by kernel_rfl
theorem under_Leq.f : ctx.fns 14 = some under_Leq.c := rfl
set_option maxRecDepth 100000 in
theorem level_Eval.k : compF Go.Proofs.Tryz.prog Go.Proofs.Tryz.f15 = some level_Eval.c := by kernel_rfl
theorem level_Eval.f : ctx.fns 15 = some level_Eval.c := rfl
set_option maxRecDepth 100000 in
theorem top_holds.k : compF Go.Proofs.Tryz.prog Go.Proofs.Tryz.f16 = some top_holds.c := by kernel_rfl
theorem top_holds.f : ctx.fns 16 = some top_holds.c := rfl
set_option maxRecDepth 100000 in
theorem level_Num.k : compF Go.Proofs.Tryz.prog Go.Proofs.Tryz.f20 = some level_Num.c := by kernel_rfl
set_option maxRecDepth 100000 in
theorem solve_Solve.k : compF Go.Proofs.Tryz.prog Go.Proofs.Tryz.f22 = some solve_Solve.c := by kernel_rfl
theorem solve_Solve.f : ctx.fns 22 = some solve_Solve.c := rfl
set_option maxRecDepth 100000 in
theorem slices_ContainsFunc_Decl.k : compF Go.Proofs.Tryz.prog Go.Proofs.Tryz.f26 = some slices_ContainsFunc_Decl.c := by kernel_rfl
set_option maxRecDepth 100000 in
theorem law02_Maker_Pick.k : compF Go.Proofs.Tryz.prog Go.Proofs.Tryz.f38 = some law02_Maker_Pick.c := by kernel_rfl
theorem law02_Maker_Pick.f : ctx.fns 38 = some law02_Maker_Pick.c := rfl
set_option maxRecDepth 100000 in
theorem under_Right.k : compF Go.Proofs.Tryz.prog Go.Proofs.Tryz.f39 = some under_Right.c := by kernel_rfl
theorem under_Right.f : ctx.fns 39 = some under_Right.c := rfl
set_option maxRecDepth 100000 in
theorem level_Right.k : compF Go.Proofs.Tryz.prog Go.Proofs.Tryz.f40 = some level_Right.c := by kernel_rfl
theorem level_Right.f : ctx.fns 40 = some level_Right.c := rfl
set_option maxRecDepth 100000 in
theorem under_first.k : compF Go.Proofs.Tryz.prog Go.Proofs.Tryz.f41 = some under_first.c := by kernel_rfl
theorem under_first.f : ctx.fns 41 = some under_first.c := rfl
set_option maxRecDepth 100000 in
theorem under_Leq_1.k : compF Go.Proofs.Tryz.prog Go.Proofs.Tryz.f42 = some under_Leq_1.c := by kernel_rfl
theorem under_Leq_1.f : ctx.fns 42 = some under_Leq_1.c := rfl
set_option maxRecDepth 100000 in
theorem under_situation_atoms.k : compF Go.Proofs.Tryz.prog Go.Proofs.Tryz.f43 = some under_situation_atoms.c := by kernel_rfl
theorem under_situation_atoms.f : ctx.fns 43 = some under_situation_atoms.c := rfl
set_option maxRecDepth 100000 in
theorem under_situation_values.k : compF Go.Proofs.Tryz.prog Go.Proofs.Tryz.f44 = some under_situation_values.c := by kernel_rfl
theorem under_situation_values.f : ctx.fns 44 = some under_situation_values.c := rfl
set_option maxRecDepth 100000 in
theorem level_Eval_1.k : compF Go.Proofs.Tryz.prog Go.Proofs.Tryz.f45 = some level_Eval_1.c := by kernel_rfl
theorem level_Eval_1.f : ctx.fns 45 = some level_Eval_1.c := rfl
set_option maxRecDepth 100000 in
theorem slices_ContainsFunc_int.k : compF Go.Proofs.Tryz.prog Go.Proofs.Tryz.f46 = some slices_ContainsFunc_int.c := by kernel_rfl
theorem slices_ContainsFunc_int.f : ctx.fns 46 = some slices_ContainsFunc_int.c := rfl
set_option maxRecDepth 100000 in
theorem level_value.k : compF Go.Proofs.Tryz.prog Go.Proofs.Tryz.f47 = some level_value.c := by kernel_rfl
theorem level_value.f : ctx.fns 47 = some level_value.c := rfl
set_option maxRecDepth 100000 in
theorem horn_Right.k : compF Go.Proofs.Tryz.prog Go.Proofs.Tryz.f58 = some horn_Right.c := by kernel_rfl
theorem horn_Right.f : ctx.fns 58 = some horn_Right.c := rfl
set_option maxRecDepth 100000 in
theorem solve_run.k : compF Go.Proofs.Tryz.prog Go.Proofs.Tryz.f59 = some solve_run.c := by kernel_rfl
theorem solve_run.f : ctx.fns 59 = some solve_run.c := rfl
set_option maxRecDepth 100000 in
theorem solve_limit.k : compF Go.Proofs.Tryz.prog Go.Proofs.Tryz.f60 = some solve_limit.c := by kernel_rfl
theorem solve_limit.f : ctx.fns 60 = some solve_limit.c := rfl
set_option maxRecDepth 100000 in
theorem leq_All.k : compF Go.Proofs.Tryz.prog Go.Proofs.Tryz.f61 = some leq_All.c := by kernel_rfl
set_option maxRecDepth 100000 in
theorem flat_Flatten.k : compF Go.Proofs.Tryz.prog Go.Proofs.Tryz.f62 = some flat_Flatten.c := by kernel_rfl
theorem flat_Flatten.f : ctx.fns 62 = some flat_Flatten.c := rfl
set_option maxRecDepth 100000 in
theorem flat_Leq.k : compF Go.Proofs.Tryz.prog Go.Proofs.Tryz.f63 = some flat_Leq.c := by kernel_rfl
set_option maxRecDepth 100000 in
theorem slices_EqualFunc_Level.k : compF Go.Proofs.Tryz.prog Go.Proofs.Tryz.f65 = some slices_EqualFunc_Level.c := by kernel_rfl
set_option maxRecDepth 100000 in
theorem level_Same.k : compF Go.Proofs.Tryz.prog Go.Proofs.Tryz.f66 = some level_Same.c := by kernel_rfl
set_option maxRecDepth 100000 in
theorem slices_EqualFunc_Term.k : compF Go.Proofs.Tryz.prog Go.Proofs.Tryz.f67 = some slices_EqualFunc_Term.c := by kernel_rfl
set_option maxRecDepth 100000 in
theorem slices_IndexFunc_Decl.k : compF Go.Proofs.Tryz.prog Go.Proofs.Tryz.f69 = some slices_IndexFunc_Decl.c := by kernel_rfl
set_option maxRecDepth 100000 in
theorem slices_ContainsFunc_Con.k : compF Go.Proofs.Tryz.prog Go.Proofs.Tryz.f73 = some slices_ContainsFunc_Con.c := by kernel_rfl
theorem slices_ContainsFunc_Con.f : ctx.fns 73 = some slices_ContainsFunc_Con.c := rfl
set_option maxRecDepth 100000 in
theorem under_Right_1.k : compF Go.Proofs.Tryz.prog Go.Proofs.Tryz.f90 = some under_Right_1.c := by kernel_rfl
theorem under_Right_1.f : ctx.fns 90 = some under_Right_1.c := rfl
set_option maxRecDepth 100000 in
theorem level_nodes.k : compF Go.Proofs.Tryz.prog Go.Proofs.Tryz.f91 = some level_nodes.c := by kernel_rfl
theorem level_nodes.f : ctx.fns 91 = some level_nodes.c := rfl
set_option maxRecDepth 100000 in
theorem level_right.k : compF Go.Proofs.Tryz.prog Go.Proofs.Tryz.f92 = some level_right.c := by kernel_rfl
theorem level_right.f : ctx.fns 92 = some level_right.c := rfl
set_option maxRecDepth 100000 in
theorem slices_Collect_Clause.k : compF Go.Proofs.Tryz.prog Go.Proofs.Tryz.f93 = some slices_Collect_Clause.c := by kernel_rfl
theorem slices_Collect_Clause.f : ctx.fns 93 = some slices_Collect_Clause.c := rfl
set_option maxRecDepth 100000 in
theorem under_situation_clauses.k : compF Go.Proofs.Tryz.prog Go.Proofs.Tryz.f94 = some under_situation_clauses.c := by kernel_rfl
theorem under_situation_clauses.f : ctx.fns 94 = some under_situation_clauses.c := rfl
set_option maxRecDepth 100000 in
theorem slices_IndexFunc_int.k : compF Go.Proofs.Tryz.prog Go.Proofs.Tryz.f95 = some slices_IndexFunc_int.c := by kernel_rfl
theorem slices_IndexFunc_int.f : ctx.fns 95 = some slices_IndexFunc_int.c := rfl
set_option maxRecDepth 100000 in
theorem level_kinds.k : compF Go.Proofs.Tryz.prog Go.Proofs.Tryz.f96 = some level_kinds.c := by kernel_rfl
set_option maxRecDepth 100000 in
theorem under_Possible.k : compF Go.Proofs.Tryz.prog Go.Proofs.Tryz.f100 = some under_Possible.c := by kernel_rfl
set_option maxRecDepth 100000 in
theorem slices_Concat_Con.k : compF Go.Proofs.Tryz.prog Go.Proofs.Tryz.f103 = some slices_Concat_Con.c := by kernel_rfl
set_option maxRecDepth 100000 in
theorem slices_EqualFunc_Con.k : compF Go.Proofs.Tryz.prog Go.Proofs.Tryz.f106 = some slices_EqualFunc_Con.c := by kernel_rfl
set_option maxRecDepth 100000 in
theorem horn_Right_1.k : compF Go.Proofs.Tryz.prog Go.Proofs.Tryz.f107 = some horn_Right_1.c := by kernel_rfl
theorem horn_Right_1.f : ctx.fns 107 = some horn_Right_1.c := rfl
set_option maxRecDepth 100000 in
theorem slices_ContainsFunc_Clause.k : compF Go.Proofs.Tryz.prog Go.Proofs.Tryz.f108 = some slices_ContainsFunc_Clause.c := by kernel_rfl
theorem slices_ContainsFunc_Clause.f : ctx.fns 108 = some slices_ContainsFunc_Clause.c := rfl
set_option maxRecDepth 100000 in
theorem horn_atoms.k : compF Go.Proofs.Tryz.prog Go.Proofs.Tryz.f109 = some horn_atoms.c := by kernel_rfl
theorem horn_atoms.f : ctx.fns 109 = some horn_atoms.c := rfl
set_option maxRecDepth 100000 in
theorem solve_of.k : compF Go.Proofs.Tryz.prog Go.Proofs.Tryz.f110 = some solve_of.c := by kernel_rfl
theorem solve_of.f : ctx.fns 110 = some solve_of.c := rfl
set_option maxRecDepth 100000 in
theorem solve_model_rounds.k : compF Go.Proofs.Tryz.prog Go.Proofs.Tryz.f111 = some solve_model_rounds.c := by kernel_rfl
theorem solve_model_rounds.f : ctx.fns 111 = some solve_model_rounds.c := rfl
set_option maxRecDepth 100000 in
theorem slices_Max_int.k : compF Go.Proofs.Tryz.prog Go.Proofs.Tryz.f112 = some slices_Max_int.c := by kernel_rfl
theorem slices_Max_int.f : ctx.fns 112 = some slices_Max_int.c := rfl
set_option maxRecDepth 100000 in
theorem horn_Most.k : compF Go.Proofs.Tryz.prog Go.Proofs.Tryz.f114 = some horn_Most.c := by kernel_rfl
theorem horn_Most.f : ctx.fns 114 = some horn_Most.c := rfl
set_option maxRecDepth 100000 in
theorem leq_All_1.k : compF Go.Proofs.Tryz.prog Go.Proofs.Tryz.f115 = some leq_All_1.c := by kernel_rfl
theorem leq_All_1.f : ctx.fns 115 = some leq_All_1.c := rfl
set_option maxRecDepth 100000 in
theorem flat_of.k : compF Go.Proofs.Tryz.prog Go.Proofs.Tryz.f116 = some flat_of.c := by kernel_rfl
set_option maxRecDepth 100000 in
theorem flat_Top.k : compF Go.Proofs.Tryz.prog Go.Proofs.Tryz.f117 = some flat_Top.c := by kernel_rfl
theorem flat_Top.f : ctx.fns 117 = some flat_Top.c := rfl
set_option maxRecDepth 100000 in
theorem flat_Right.k : compF Go.Proofs.Tryz.prog Go.Proofs.Tryz.f118 = some flat_Right.c := by kernel_rfl
set_option maxRecDepth 100000 in
theorem slices_IndexFunc_Con.k : compF Go.Proofs.Tryz.prog Go.Proofs.Tryz.f121 = some slices_IndexFunc_Con.c := by kernel_rfl
theorem slices_IndexFunc_Con.f : ctx.fns 121 = some slices_IndexFunc_Con.c := rfl
set_option maxRecDepth 100000 in
theorem level_right_1.k : compF Go.Proofs.Tryz.prog Go.Proofs.Tryz.f145 = some level_right_1.c := by kernel_rfl
theorem level_right_1.f : ctx.fns 145 = some level_right_1.c := rfl
set_option maxRecDepth 100000 in
theorem level_named.k : compF Go.Proofs.Tryz.prog Go.Proofs.Tryz.f146 = some level_named.c := by kernel_rfl
theorem level_named.f : ctx.fns 146 = some level_named.c := rfl
set_option maxRecDepth 100000 in
theorem slices_ContainsFunc_Level.k : compF Go.Proofs.Tryz.prog Go.Proofs.Tryz.f147 = some slices_ContainsFunc_Level.c := by kernel_rfl
theorem slices_ContainsFunc_Level.f : ctx.fns 147 = some slices_ContainsFunc_Level.c := rfl
set_option maxRecDepth 100000 in
theorem slices_AppendSeq_Clause.k : compF Go.Proofs.Tryz.prog Go.Proofs.Tryz.f148 = some slices_AppendSeq_Clause.c := by kernel_rfl
theorem slices_AppendSeq_Clause.f : ctx.fns 148 = some slices_AppendSeq_Clause.c := rfl
set_option maxRecDepth 100000 in
theorem under_situation_clauses_1.k : compF Go.Proofs.Tryz.prog Go.Proofs.Tryz.f149 = some under_situation_clauses_1.c := by kernel_rfl
theorem under_situation_clauses_1.f : ctx.fns 149 = some under_situation_clauses_1.c := rfl
set_option maxRecDepth 100000 in
theorem level_kinds_1.k : compF Go.Proofs.Tryz.prog Go.Proofs.Tryz.f150 = some level_kinds_1.c := by kernel_rfl
theorem level_kinds_1.f : ctx.fns 150 = some level_kinds_1.c := rfl
set_option maxRecDepth 100000 in
theorem level_kinds_2.k : compF Go.Proofs.Tryz.prog Go.Proofs.Tryz.f151 = some level_kinds_2.c := by kernel_rfl
theorem level_kinds_2.f : ctx.fns 151 = some level_kinds_2.c := rfl
set_option maxRecDepth 100000 in
theorem level_kinds_3.k : compF Go.Proofs.Tryz.prog Go.Proofs.Tryz.f152 = some level_kinds_3.c := by kernel_rfl
theorem level_kinds_3.f : ctx.fns 152 = some level_kinds_3.c := rfl
set_option maxRecDepth 100000 in
theorem level_kinds_4.k : compF Go.Proofs.Tryz.prog Go.Proofs.Tryz.f153 = some level_kinds_4.c := by kernel_rfl
theorem level_kinds_4.f : ctx.fns 153 = some level_kinds_4.c := rfl
set_option maxRecDepth 100000 in
theorem level_imax.k : compF Go.Proofs.Tryz.prog Go.Proofs.Tryz.f154 = some level_imax.c := by kernel_rfl
theorem level_imax.f : ctx.fns 154 = some level_imax.c := rfl
set_option maxRecDepth 100000 in
theorem level_kinds_5.k : compF Go.Proofs.Tryz.prog Go.Proofs.Tryz.f155 = some level_kinds_5.c := by kernel_rfl
theorem level_kinds_5.f : ctx.fns 155 = some level_kinds_5.c := rfl
set_option maxRecDepth 100000 in
theorem level_kinds_6.k : compF Go.Proofs.Tryz.prog Go.Proofs.Tryz.f156 = some level_kinds_6.c := by kernel_rfl
theorem level_kinds_6.f : ctx.fns 156 = some level_kinds_6.c := rfl
set_option maxRecDepth 100000 in
theorem under_Possible_1.k : compF Go.Proofs.Tryz.prog Go.Proofs.Tryz.f163 = some under_Possible_1.c := by kernel_rfl
set_option maxRecDepth 100000 in
theorem slices_DeleteFunc_Con.k : compF Go.Proofs.Tryz.prog Go.Proofs.Tryz.f170 = some slices_DeleteFunc_Con.c := by kernel_rfl
set_option maxRecDepth 100000 in
theorem slices_Repeat_Level.k : compF Go.Proofs.Tryz.prog Go.Proofs.Tryz.f174 = some slices_Repeat_Level.c := by kernel_rfl
set_option maxRecDepth 100000 in
theorem slices_Grow_Con.k : compF Go.Proofs.Tryz.prog Go.Proofs.Tryz.f176 = some slices_Grow_Con.c := by kernel_rfl
set_option maxRecDepth 100000 in
theorem slices_Concat_Level.k : compF Go.Proofs.Tryz.prog Go.Proofs.Tryz.f177 = some slices_Concat_Level.c := by kernel_rfl
set_option maxRecDepth 100000 in
theorem slices_IndexFunc_Clause.k : compF Go.Proofs.Tryz.prog Go.Proofs.Tryz.f180 = some slices_IndexFunc_Clause.c := by kernel_rfl
theorem slices_IndexFunc_Clause.f : ctx.fns 180 = some slices_IndexFunc_Clause.c := rfl
set_option maxRecDepth 100000 in
theorem horn_atoms_1.k : compF Go.Proofs.Tryz.prog Go.Proofs.Tryz.f181 = some horn_atoms_1.c := by kernel_rfl
theorem horn_atoms_1.f : ctx.fns 181 = some horn_atoms_1.c := rfl
set_option maxRecDepth 100000 in
theorem slices_Concat_Atom.k : compF Go.Proofs.Tryz.prog Go.Proofs.Tryz.f182 = some slices_Concat_Atom.c := by kernel_rfl
theorem slices_Concat_Atom.f : ctx.fns 182 = some slices_Concat_Atom.c := rfl
set_option maxRecDepth 100000 in
theorem solve_model_rounds_1.k : compF Go.Proofs.Tryz.prog Go.Proofs.Tryz.f183 = some solve_model_rounds_1.c := by kernel_rfl
theorem solve_model_rounds_1.f : ctx.fns 183 = some solve_model_rounds_1.c := rfl
set_option maxRecDepth 100000 in
theorem solve_model_round.k : compF Go.Proofs.Tryz.prog Go.Proofs.Tryz.f184 = some solve_model_round.c := by kernel_rfl
theorem solve_model_round.f : ctx.fns 184 = some solve_model_round.c := rfl
set_option maxRecDepth 100000 in
theorem flat_plain.k : compF Go.Proofs.Tryz.prog Go.Proofs.Tryz.f185 = some flat_plain.c := by kernel_rfl
set_option maxRecDepth 100000 in
theorem flat_succ.k : compF Go.Proofs.Tryz.prog Go.Proofs.Tryz.f186 = some flat_succ.c := by kernel_rfl
set_option maxRecDepth 100000 in
theorem flat_join.k : compF Go.Proofs.Tryz.prog Go.Proofs.Tryz.f187 = some flat_join.c := by kernel_rfl
set_option maxRecDepth 100000 in
theorem flat_Right_1.k : compF Go.Proofs.Tryz.prog Go.Proofs.Tryz.f188 = some flat_Right_1.c := by kernel_rfl
set_option maxRecDepth 100000 in
theorem slices_IndexFunc_Level.k : compF Go.Proofs.Tryz.prog Go.Proofs.Tryz.f227 = some slices_IndexFunc_Level.c := by kernel_rfl
theorem slices_IndexFunc_Level.f : ctx.fns 227 = some slices_IndexFunc_Level.c := rfl
set_option maxRecDepth 100000 in
theorem math_bits_Mul.k : compF Go.Proofs.Tryz.prog Go.Proofs.Tryz.f243 = some math_bits_Mul.c := by kernel_rfl
theorem math_bits_Mul.f : ctx.fns 243 = some math_bits_Mul.c := rfl
set_option maxRecDepth 100000 in
theorem slices_ContainsFunc_Atom.k : compF Go.Proofs.Tryz.prog Go.Proofs.Tryz.f246 = some slices_ContainsFunc_Atom.c := by kernel_rfl
set_option maxRecDepth 100000 in
theorem slices_Grow_Level.k : compF Go.Proofs.Tryz.prog Go.Proofs.Tryz.f247 = some slices_Grow_Level.c := by kernel_rfl
set_option maxRecDepth 100000 in
theorem slices_Grow_Atom.k : compF Go.Proofs.Tryz.prog Go.Proofs.Tryz.f249 = some slices_Grow_Atom.c := by kernel_rfl
theorem slices_Grow_Atom.f : ctx.fns 249 = some slices_Grow_Atom.c := rfl
set_option maxRecDepth 100000 in
theorem horn_Asks.k : compF Go.Proofs.Tryz.prog Go.Proofs.Tryz.f250 = some horn_Asks.c := by kernel_rfl
theorem horn_Asks.f : ctx.fns 250 = some horn_Asks.c := rfl
set_option maxRecDepth 100000 in
theorem slices_Repeat_int.k : compF Go.Proofs.Tryz.prog Go.Proofs.Tryz.f251 = some slices_Repeat_int.c := by kernel_rfl
set_option maxRecDepth 100000 in
theorem slices_Contains_int.k : compF Go.Proofs.Tryz.prog Go.Proofs.Tryz.f280 = some slices_Contains_int.c := by kernel_rfl
set_option maxRecDepth 100000 in
theorem math_bits_Mul32.k : compF Go.Proofs.Tryz.prog Go.Proofs.Tryz.f289 = some math_bits_Mul32.c := by kernel_rfl
set_option maxRecDepth 100000 in
theorem math_bits_Mul64.k : compF Go.Proofs.Tryz.prog Go.Proofs.Tryz.f290 = some math_bits_Mul64.c := by kernel_rfl
set_option maxRecDepth 100000 in
theorem slices_IndexFunc_Atom.k : compF Go.Proofs.Tryz.prog Go.Proofs.Tryz.f291 = some slices_IndexFunc_Atom.c := by kernel_rfl
set_option maxRecDepth 100000 in
theorem horn_Asks_1.k : compF Go.Proofs.Tryz.prog Go.Proofs.Tryz.f295 = some horn_Asks_1.c := by kernel_rfl
theorem horn_Asks_1.f : ctx.fns 295 = some horn_Asks_1.c := rfl
set_option maxRecDepth 100000 in
theorem slices_MinFunc_Atom.k : compF Go.Proofs.Tryz.prog Go.Proofs.Tryz.f296 = some slices_MinFunc_Atom.c := by kernel_rfl
theorem slices_MinFunc_Atom.f : ctx.fns 296 = some slices_MinFunc_Atom.c := rfl
set_option maxRecDepth 100000 in
theorem slices_Index_int.k : compF Go.Proofs.Tryz.prog Go.Proofs.Tryz.f320 = some slices_Index_int.c := by kernel_rfl
set_option maxRecDepth 100000 in
theorem slices_Backward_Term.k : compF Go.Proofs.Tryz.prog Go.Proofs.Tryz.f322 = some slices_Backward_Term.c := by kernel_rfl
set_option maxRecDepth 100000 in
theorem slices_Backward_Term_1.k : compF Go.Proofs.Tryz.prog Go.Proofs.Tryz.f350 = some slices_Backward_Term_1.c := by kernel_rfl
theorem lnk : Lnk Go.Proofs.Tryz.prog ctx where
  fns := by
    intro f F h
    simp only [ctx] at h
    split at h
    · cases h; exact ⟨_, Go.Proofs.Tryz.func4, top_TopLevels.k, by decide⟩
    · cases h; exact ⟨_, Go.Proofs.Tryz.func12, law02_Maker_Level.k, by decide⟩
    · cases h; exact ⟨_, Go.Proofs.Tryz.func13, law12_Cons.k, by decide⟩
    · cases h; exact ⟨_, Go.Proofs.Tryz.func14, under_Leq.k, by decide⟩
    · cases h; exact ⟨_, Go.Proofs.Tryz.func15, level_Eval.k, by decide⟩
    · cases h; exact ⟨_, Go.Proofs.Tryz.func16, top_holds.k, by decide⟩
    · cases h; exact ⟨_, Go.Proofs.Tryz.func20, level_Num.k, by decide⟩
    · cases h; exact ⟨_, Go.Proofs.Tryz.func22, solve_Solve.k, by decide⟩
    · cases h; exact ⟨_, Go.Proofs.Tryz.func26, slices_ContainsFunc_Decl.k, by decide⟩
    · cases h; exact ⟨_, Go.Proofs.Tryz.func38, law02_Maker_Pick.k, by decide⟩
    · cases h; exact ⟨_, Go.Proofs.Tryz.func39, under_Right.k, by decide⟩
    · cases h; exact ⟨_, Go.Proofs.Tryz.func40, level_Right.k, by decide⟩
    · cases h; exact ⟨_, Go.Proofs.Tryz.func41, under_first.k, by decide⟩
    · cases h; exact ⟨_, Go.Proofs.Tryz.func42, under_Leq_1.k, by decide⟩
    · cases h; exact ⟨_, Go.Proofs.Tryz.func43, under_situation_atoms.k, by decide⟩
    · cases h; exact ⟨_, Go.Proofs.Tryz.func44, under_situation_values.k, by decide⟩
    · cases h; exact ⟨_, Go.Proofs.Tryz.func45, level_Eval_1.k, by decide⟩
    · cases h; exact ⟨_, Go.Proofs.Tryz.func46, slices_ContainsFunc_int.k, by decide⟩
    · cases h; exact ⟨_, Go.Proofs.Tryz.func47, level_value.k, by decide⟩
    · cases h; exact ⟨_, Go.Proofs.Tryz.func58, horn_Right.k, by decide⟩
    · cases h; exact ⟨_, Go.Proofs.Tryz.func59, solve_run.k, by decide⟩
    · cases h; exact ⟨_, Go.Proofs.Tryz.func60, solve_limit.k, by decide⟩
    · cases h; exact ⟨_, Go.Proofs.Tryz.func61, leq_All.k, by decide⟩
    · cases h; exact ⟨_, Go.Proofs.Tryz.func62, flat_Flatten.k, by decide⟩
    · cases h; exact ⟨_, Go.Proofs.Tryz.func63, flat_Leq.k, by decide⟩
    · cases h; exact ⟨_, Go.Proofs.Tryz.func65, slices_EqualFunc_Level.k, by decide⟩
    · cases h; exact ⟨_, Go.Proofs.Tryz.func66, level_Same.k, by decide⟩
    · cases h; exact ⟨_, Go.Proofs.Tryz.func67, slices_EqualFunc_Term.k, by decide⟩
    · cases h; exact ⟨_, Go.Proofs.Tryz.func69, slices_IndexFunc_Decl.k, by decide⟩
    · cases h; exact ⟨_, Go.Proofs.Tryz.func73, slices_ContainsFunc_Con.k, by decide⟩
    · cases h; exact ⟨_, Go.Proofs.Tryz.func90, under_Right_1.k, by decide⟩
    · cases h; exact ⟨_, Go.Proofs.Tryz.func91, level_nodes.k, by decide⟩
    · cases h; exact ⟨_, Go.Proofs.Tryz.func92, level_right.k, by decide⟩
    · cases h; exact ⟨_, Go.Proofs.Tryz.func93, slices_Collect_Clause.k, by decide⟩
    · cases h; exact ⟨_, Go.Proofs.Tryz.func94, under_situation_clauses.k, by decide⟩
    · cases h; exact ⟨_, Go.Proofs.Tryz.func95, slices_IndexFunc_int.k, by decide⟩
    · cases h; exact ⟨_, Go.Proofs.Tryz.func96, level_kinds.k, by decide⟩
    · cases h; exact ⟨_, Go.Proofs.Tryz.func100, under_Possible.k, by decide⟩
    · cases h; exact ⟨_, Go.Proofs.Tryz.func103, slices_Concat_Con.k, by decide⟩
    · cases h; exact ⟨_, Go.Proofs.Tryz.func106, slices_EqualFunc_Con.k, by decide⟩
    · cases h; exact ⟨_, Go.Proofs.Tryz.func107, horn_Right_1.k, by decide⟩
    · cases h; exact ⟨_, Go.Proofs.Tryz.func108, slices_ContainsFunc_Clause.k, by decide⟩
    · cases h; exact ⟨_, Go.Proofs.Tryz.func109, horn_atoms.k, by decide⟩
    · cases h; exact ⟨_, Go.Proofs.Tryz.func110, solve_of.k, by decide⟩
    · cases h; exact ⟨_, Go.Proofs.Tryz.func111, solve_model_rounds.k, by decide⟩
    · cases h; exact ⟨_, Go.Proofs.Tryz.func112, slices_Max_int.k, by decide⟩
    · cases h; exact ⟨_, Go.Proofs.Tryz.func114, horn_Most.k, by decide⟩
    · cases h; exact ⟨_, Go.Proofs.Tryz.func115, leq_All_1.k, by decide⟩
    · cases h; exact ⟨_, Go.Proofs.Tryz.func116, flat_of.k, by decide⟩
    · cases h; exact ⟨_, Go.Proofs.Tryz.func117, flat_Top.k, by decide⟩
    · cases h; exact ⟨_, Go.Proofs.Tryz.func118, flat_Right.k, by decide⟩
    · cases h; exact ⟨_, Go.Proofs.Tryz.func121, slices_IndexFunc_Con.k, by decide⟩
    · cases h; exact ⟨_, Go.Proofs.Tryz.func145, level_right_1.k, by decide⟩
    · cases h; exact ⟨_, Go.Proofs.Tryz.func146, level_named.k, by decide⟩
    · cases h; exact ⟨_, Go.Proofs.Tryz.func147, slices_ContainsFunc_Level.k, by decide⟩
    · cases h; exact ⟨_, Go.Proofs.Tryz.func148, slices_AppendSeq_Clause.k, by decide⟩
    · cases h; exact ⟨_, Go.Proofs.Tryz.func149, under_situation_clauses_1.k, by decide⟩
    · cases h; exact ⟨_, Go.Proofs.Tryz.func150, level_kinds_1.k, by decide⟩
    · cases h; exact ⟨_, Go.Proofs.Tryz.func151, level_kinds_2.k, by decide⟩
    · cases h; exact ⟨_, Go.Proofs.Tryz.func152, level_kinds_3.k, by decide⟩
    · cases h; exact ⟨_, Go.Proofs.Tryz.func153, level_kinds_4.k, by decide⟩
    · cases h; exact ⟨_, Go.Proofs.Tryz.func154, level_imax.k, by decide⟩
    · cases h; exact ⟨_, Go.Proofs.Tryz.func155, level_kinds_5.k, by decide⟩
    · cases h; exact ⟨_, Go.Proofs.Tryz.func156, level_kinds_6.k, by decide⟩
    · cases h; exact ⟨_, Go.Proofs.Tryz.func163, under_Possible_1.k, by decide⟩
    · cases h; exact ⟨_, Go.Proofs.Tryz.func170, slices_DeleteFunc_Con.k, by decide⟩
    · cases h; exact ⟨_, Go.Proofs.Tryz.func174, slices_Repeat_Level.k, by decide⟩
    · cases h; exact ⟨_, Go.Proofs.Tryz.func176, slices_Grow_Con.k, by decide⟩
    · cases h; exact ⟨_, Go.Proofs.Tryz.func177, slices_Concat_Level.k, by decide⟩
    · cases h; exact ⟨_, Go.Proofs.Tryz.func180, slices_IndexFunc_Clause.k, by decide⟩
    · cases h; exact ⟨_, Go.Proofs.Tryz.func181, horn_atoms_1.k, by decide⟩
    · cases h; exact ⟨_, Go.Proofs.Tryz.func182, slices_Concat_Atom.k, by decide⟩
    · cases h; exact ⟨_, Go.Proofs.Tryz.func183, solve_model_rounds_1.k, by decide⟩
    · cases h; exact ⟨_, Go.Proofs.Tryz.func184, solve_model_round.k, by decide⟩
    · cases h; exact ⟨_, Go.Proofs.Tryz.func185, flat_plain.k, by decide⟩
    · cases h; exact ⟨_, Go.Proofs.Tryz.func186, flat_succ.k, by decide⟩
    · cases h; exact ⟨_, Go.Proofs.Tryz.func187, flat_join.k, by decide⟩
    · cases h; exact ⟨_, Go.Proofs.Tryz.func188, flat_Right_1.k, by decide⟩
    · cases h; exact ⟨_, Go.Proofs.Tryz.func227, slices_IndexFunc_Level.k, by decide⟩
    · cases h; exact ⟨_, Go.Proofs.Tryz.func243, math_bits_Mul.k, by decide⟩
    · cases h; exact ⟨_, Go.Proofs.Tryz.func246, slices_ContainsFunc_Atom.k, by decide⟩
    · cases h; exact ⟨_, Go.Proofs.Tryz.func247, slices_Grow_Level.k, by decide⟩
    · cases h; exact ⟨_, Go.Proofs.Tryz.func249, slices_Grow_Atom.k, by decide⟩
    · cases h; exact ⟨_, Go.Proofs.Tryz.func250, horn_Asks.k, by decide⟩
    · cases h; exact ⟨_, Go.Proofs.Tryz.func251, slices_Repeat_int.k, by decide⟩
    · cases h; exact ⟨_, Go.Proofs.Tryz.func280, slices_Contains_int.k, by decide⟩
    · cases h; exact ⟨_, Go.Proofs.Tryz.func289, math_bits_Mul32.k, by decide⟩
    · cases h; exact ⟨_, Go.Proofs.Tryz.func290, math_bits_Mul64.k, by decide⟩
    · cases h; exact ⟨_, Go.Proofs.Tryz.func291, slices_IndexFunc_Atom.k, by decide⟩
    · cases h; exact ⟨_, Go.Proofs.Tryz.func295, horn_Asks_1.k, by decide⟩
    · cases h; exact ⟨_, Go.Proofs.Tryz.func296, slices_MinFunc_Atom.k, by decide⟩
    · cases h; exact ⟨_, Go.Proofs.Tryz.func320, slices_Index_int.k, by decide⟩
    · cases h; exact ⟨_, Go.Proofs.Tryz.func322, slices_Backward_Term.k, by decide⟩
    · cases h; exact ⟨_, Go.Proofs.Tryz.func350, slices_Backward_Term_1.k, by decide⟩
    · cases h
  prim := by
    intro f h hh
    simp only [ctx] at hh
    split at hh
    · cases hh; exact clone_link (t := 28) (et := 61) Go.Proofs.Tryz.func48 (by decide) ⟨_, _, _, _, _, _, _, _, _, _, _, _, _, rfl, ⟨rfl, rfl, rfl⟩, ⟨rfl, rfl, rfl⟩, ⟨rfl, rfl, rfl⟩, ⟨rfl, rfl, rfl⟩, ⟨rfl, rfl, rfl⟩, ⟨rfl, rfl, rfl⟩, ⟨rfl, rfl, rfl⟩, ⟨rfl, rfl, rfl⟩⟩ rfl rfl Go.Proofs.Tryz.underlying28 (by kernel_rfl) (by decide) (by kernel_rfl)
    · cases hh; exact clone_link (t := 49) (et := 3) Go.Proofs.Tryz.func113 (by decide) ⟨_, _, _, _, _, _, _, _, _, _, _, _, _, rfl, ⟨rfl, rfl, rfl⟩, ⟨rfl, rfl, rfl⟩, ⟨rfl, rfl, rfl⟩, ⟨rfl, rfl, rfl⟩, ⟨rfl, rfl, rfl⟩, ⟨rfl, rfl, rfl⟩, ⟨rfl, rfl, rfl⟩, ⟨rfl, rfl, rfl⟩⟩ rfl rfl Go.Proofs.Tryz.underlying49 (by kernel_rfl) (by decide) (by kernel_rfl)
    · cases hh; exact clone_link (t := 47) (et := 97) Go.Proofs.Tryz.func171 (by decide) ⟨_, _, _, _, _, _, _, _, _, _, _, _, _, rfl, ⟨rfl, rfl, rfl⟩, ⟨rfl, rfl, rfl⟩, ⟨rfl, rfl, rfl⟩, ⟨rfl, rfl, rfl⟩, ⟨rfl, rfl, rfl⟩, ⟨rfl, rfl, rfl⟩, ⟨rfl, rfl, rfl⟩, ⟨rfl, rfl, rfl⟩⟩ rfl rfl Go.Proofs.Tryz.underlying47 (by kernel_rfl) (by decide) (by kernel_rfl)
    · cases hh; exact clone_link (t := 57) (et := 59) Go.Proofs.Tryz.func362 (by decide) ⟨_, _, _, _, _, _, _, _, _, _, _, _, _, rfl, ⟨rfl, rfl, rfl⟩, ⟨rfl, rfl, rfl⟩, ⟨rfl, rfl, rfl⟩, ⟨rfl, rfl, rfl⟩, ⟨rfl, rfl, rfl⟩, ⟨rfl, rfl, rfl⟩, ⟨rfl, rfl, rfl⟩, ⟨rfl, rfl, rfl⟩⟩ rfl rfl Go.Proofs.Tryz.underlying57 (by kernel_rfl) (by decide) (by kernel_rfl)
    · cases hh; exact alive_ok
    · cases hh
  mixed := by kernel_rfl
end Pi


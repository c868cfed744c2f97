/- Facts on the types of the program, by reckoning. -/
import Derived.Test.YthpeadoidpimmaaTw7
import Derived.Test.YthpeadoidpimmaaProg
namespace Go.Proofs.Ythpeadoidpimmaa
open Go Tw
set_option linter.unusedVariables false
set_option maxRecDepth 10000
set_option maxHeartbeats 4000000

theorem aO_116 : arrO Try.prog 116 = some (3, 97, 1) := by kernel_rfl
theorem aO_143 : arrO Try.prog 143 = some (128, 5, 1) := by kernel_rfl
theorem aO_178 : arrO Try.prog 178 = some (128, 5, 1) := by kernel_rfl
theorem aO_193 : arrO Try.prog 193 = some (16, 25, 1) := by kernel_rfl
theorem aO_70 : arrO Try.prog 70 = some (2, 31, 1) := by kernel_rfl
theorem aO_72 : arrO Try.prog 72 = some (2, 71, 1) := by kernel_rfl
theorem bO_4 : isBool Try.prog 4 = true := by kernel_rfl
theorem cO_100 : callO Try.prog 100 = true := by kernel_rfl
theorem cO_101 : callO Try.prog 101 = true := by kernel_rfl
theorem cO_102 : callO Try.prog 102 = true := by kernel_rfl
theorem cO_103 : callO Try.prog 103 = true := by kernel_rfl
theorem cO_104 : callO Try.prog 104 = true := by kernel_rfl
theorem cO_105 : callO Try.prog 105 = true := by kernel_rfl
theorem cO_106 : callO Try.prog 106 = true := by kernel_rfl
theorem cO_107 : callO Try.prog 107 = true := by kernel_rfl
theorem cO_108 : callO Try.prog 108 = true := by kernel_rfl
theorem cO_109 : callO Try.prog 109 = true := by kernel_rfl
theorem cO_110 : callO Try.prog 110 = true := by kernel_rfl
theorem cO_111 : callO Try.prog 111 = true := by kernel_rfl
theorem cO_112 : callO Try.prog 112 = true := by kernel_rfl
theorem cO_113 : callO Try.prog 113 = true := by kernel_rfl
theorem cO_114 : callO Try.prog 114 = true := by kernel_rfl
theorem cO_115 : callO Try.prog 115 = true := by kernel_rfl
theorem cO_116 : callO Try.prog 116 = true := by kernel_rfl
theorem cO_117 : callO Try.prog 117 = true := by kernel_rfl
theorem cO_118 : callO Try.prog 118 = true := by kernel_rfl
theorem cO_119 : callO Try.prog 119 = true := by kernel_rfl
theorem cO_120 : callO Try.prog 120 = true := by kernel_rfl
theorem cO_121 : callO Try.prog 121 = true := by kernel_rfl
theorem cO_122 : callO Try.prog 122 = true := by kernel_rfl
theorem cO_123 : callO Try.prog 123 = true := by kernel_rfl
theorem cO_124 : callO Try.prog 124 = true := by kernel_rfl
theorem cO_125 : callO Try.prog 125 = true := by kernel_rfl
theorem cO_126 : callO Try.prog 126 = true := by kernel_rfl
theorem cO_127 : callO Try.prog 127 = true := by kernel_rfl
theorem cO_128 : callO Try.prog 128 = true := by kernel_rfl
theorem cO_129 : callO Try.prog 129 = true := by kernel_rfl
theorem cO_130 : callO Try.prog 130 = true := by kernel_rfl
theorem cO_131 : callO Try.prog 131 = true := by kernel_rfl
theorem cO_132 : callO Try.prog 132 = true := by kernel_rfl
theorem cO_133 : callO Try.prog 133 = true := by kernel_rfl
theorem cO_134 : callO Try.prog 134 = true := by kernel_rfl
theorem cO_135 : callO Try.prog 135 = true := by kernel_rfl
theorem cO_136 : callO Try.prog 136 = true := by kernel_rfl
theorem cO_137 : callO Try.prog 137 = true := by kernel_rfl
theorem cO_138 : callO Try.prog 138 = true := by kernel_rfl
theorem cO_139 : callO Try.prog 139 = true := by kernel_rfl
theorem cO_140 : callO Try.prog 140 = true := by kernel_rfl
theorem cO_141 : callO Try.prog 141 = true := by kernel_rfl
theorem cO_142 : callO Try.prog 142 = true := by kernel_rfl
theorem cO_143 : callO Try.prog 143 = true := by kernel_rfl
theorem cO_144 : callO Try.prog 144 = true := by kernel_rfl
theorem cO_145 : callO Try.prog 145 = true := by kernel_rfl
theorem cO_146 : callO Try.prog 146 = true := by kernel_rfl
theorem cO_147 : callO Try.prog 147 = true := by kernel_rfl
theorem cO_148 : callO Try.prog 148 = true := by kernel_rfl
theorem cO_149 : callO Try.prog 149 = true := by kernel_rfl
theorem cO_150 : callO Try.prog 150 = true := by kernel_rfl
theorem cO_151 : callO Try.prog 151 = true := by kernel_rfl
theorem cO_152 : callO Try.prog 152 = true := by kernel_rfl
theorem cO_153 : callO Try.prog 153 = true := by kernel_rfl
theorem cO_154 : callO Try.prog 154 = true := by kernel_rfl
theorem cO_155 : callO Try.prog 155 = true := by kernel_rfl
theorem cO_156 : callO Try.prog 156 = true := by kernel_rfl
theorem cO_157 : callO Try.prog 157 = true := by kernel_rfl
theorem cO_158 : callO Try.prog 158 = true := by kernel_rfl
theorem cO_159 : callO Try.prog 159 = true := by kernel_rfl
theorem cO_25 : callO Try.prog 25 = true := by kernel_rfl
theorem cO_26 : callO Try.prog 26 = true := by kernel_rfl
theorem cO_27 : callO Try.prog 27 = true := by kernel_rfl
theorem cO_28 : callO Try.prog 28 = true := by kernel_rfl
theorem cO_29 : callO Try.prog 29 = true := by kernel_rfl
theorem cO_30 : callO Try.prog 30 = true := by kernel_rfl
theorem cO_31 : callO Try.prog 31 = true := by kernel_rfl
theorem cO_32 : callO Try.prog 32 = true := by kernel_rfl
theorem cO_33 : callO Try.prog 33 = true := by kernel_rfl
theorem cO_34 : callO Try.prog 34 = true := by kernel_rfl
theorem cO_35 : callO Try.prog 35 = true := by kernel_rfl
theorem cO_36 : callO Try.prog 36 = true := by kernel_rfl
theorem cO_37 : callO Try.prog 37 = true := by kernel_rfl
theorem cO_38 : callO Try.prog 38 = true := by kernel_rfl
theorem cO_39 : callO Try.prog 39 = true := by kernel_rfl
theorem cO_40 : callO Try.prog 40 = true := by kernel_rfl
theorem cO_41 : callO Try.prog 41 = true := by kernel_rfl
theorem cO_42 : callO Try.prog 42 = true := by kernel_rfl
theorem cO_43 : callO Try.prog 43 = true := by kernel_rfl
theorem cO_44 : callO Try.prog 44 = true := by kernel_rfl
theorem cO_45 : callO Try.prog 45 = true := by kernel_rfl
theorem cO_46 : callO Try.prog 46 = true := by kernel_rfl
theorem cO_47 : callO Try.prog 47 = true := by kernel_rfl
theorem cO_48 : callO Try.prog 48 = true := by kernel_rfl
theorem cO_49 : callO Try.prog 49 = true := by kernel_rfl
theorem cO_50 : callO Try.prog 50 = true := by kernel_rfl
theorem cO_51 : callO Try.prog 51 = true := by kernel_rfl
theorem cO_52 : callO Try.prog 52 = true := by kernel_rfl
theorem cO_53 : callO Try.prog 53 = true := by kernel_rfl
theorem cO_54 : callO Try.prog 54 = true := by kernel_rfl
theorem cO_55 : callO Try.prog 55 = true := by kernel_rfl
theorem cO_56 : callO Try.prog 56 = true := by kernel_rfl
theorem cO_57 : callO Try.prog 57 = true := by kernel_rfl
theorem cO_58 : callO Try.prog 58 = true := by kernel_rfl
theorem cO_59 : callO Try.prog 59 = true := by kernel_rfl
theorem cO_60 : callO Try.prog 60 = true := by kernel_rfl
theorem cO_61 : callO Try.prog 61 = true := by kernel_rfl
theorem cO_62 : callO Try.prog 62 = true := by kernel_rfl
theorem cO_63 : callO Try.prog 63 = true := by kernel_rfl
theorem cO_64 : callO Try.prog 64 = true := by kernel_rfl
theorem cO_65 : callO Try.prog 65 = true := by kernel_rfl
theorem cO_66 : callO Try.prog 66 = true := by kernel_rfl
theorem cO_67 : callO Try.prog 67 = true := by kernel_rfl
theorem cO_68 : callO Try.prog 68 = true := by kernel_rfl
theorem cO_69 : callO Try.prog 69 = true := by kernel_rfl
theorem cO_70 : callO Try.prog 70 = true := by kernel_rfl
theorem cO_71 : callO Try.prog 71 = true := by kernel_rfl
theorem cO_72 : callO Try.prog 72 = true := by kernel_rfl
theorem cO_73 : callO Try.prog 73 = true := by kernel_rfl
theorem cO_74 : callO Try.prog 74 = true := by kernel_rfl
theorem cO_75 : callO Try.prog 75 = true := by kernel_rfl
theorem cO_76 : callO Try.prog 76 = true := by kernel_rfl
theorem cO_77 : callO Try.prog 77 = true := by kernel_rfl
theorem cO_78 : callO Try.prog 78 = true := by kernel_rfl
theorem cO_79 : callO Try.prog 79 = true := by kernel_rfl
theorem cO_80 : callO Try.prog 80 = true := by kernel_rfl
theorem cO_81 : callO Try.prog 81 = true := by kernel_rfl
theorem cO_82 : callO Try.prog 82 = true := by kernel_rfl
theorem cO_83 : callO Try.prog 83 = true := by kernel_rfl
theorem cO_84 : callO Try.prog 84 = true := by kernel_rfl
theorem cO_85 : callO Try.prog 85 = true := by kernel_rfl
theorem cO_86 : callO Try.prog 86 = true := by kernel_rfl
theorem cO_87 : callO Try.prog 87 = true := by kernel_rfl
theorem cO_88 : callO Try.prog 88 = true := by kernel_rfl
theorem cO_89 : callO Try.prog 89 = true := by kernel_rfl
theorem cO_90 : callO Try.prog 90 = true := by kernel_rfl
theorem cO_91 : callO Try.prog 91 = true := by kernel_rfl
theorem cO_92 : callO Try.prog 92 = true := by kernel_rfl
theorem cO_93 : callO Try.prog 93 = true := by kernel_rfl
theorem cO_94 : callO Try.prog 94 = true := by kernel_rfl
theorem cO_95 : callO Try.prog 95 = true := by kernel_rfl
theorem cO_96 : callO Try.prog 96 = true := by kernel_rfl
theorem cO_97 : callO Try.prog 97 = true := by kernel_rfl
theorem cO_98 : callO Try.prog 98 = true := by kernel_rfl
theorem cO_99 : callO Try.prog 99 = true := by kernel_rfl
theorem eO_123 : eqOk Try.prog 123 = true := by kernel_rfl
theorem eO_177 : eqOk Try.prog 177 = true := by kernel_rfl
theorem eO_51 : eqOk Try.prog 51 = true := by kernel_rfl
theorem fK_123_1 : fieldK Try.prog 123 1 = some (1, false, 1) := by kernel_rfl
theorem fK_123_2 : fieldK Try.prog 123 2 = some (2, false, 1) := by kernel_rfl
theorem fK_123_3 : fieldK Try.prog 123 3 = some (3, false, 1) := by kernel_rfl
theorem fK_51_3 : fieldK Try.prog 51 3 = some (3, false, 1) := by kernel_rfl
theorem fO_112_0 : fieldO Try.prog 112 0 = some (0, 1) := by kernel_rfl
theorem fO_114_0 : fieldO Try.prog 114 0 = some (0, 1) := by kernel_rfl
theorem fO_114_2 : fieldO Try.prog 114 2 = some (2, 1) := by kernel_rfl
theorem fO_114_3 : fieldO Try.prog 114 3 = some (3, 1) := by kernel_rfl
theorem fO_114_4 : fieldO Try.prog 114 4 = some (4, 1) := by kernel_rfl
theorem fO_114_5 : fieldO Try.prog 114 5 = some (5, 1) := by kernel_rfl
theorem fO_114_6 : fieldO Try.prog 114 6 = some (6, 1) := by kernel_rfl
theorem fO_118_0 : fieldO Try.prog 118 0 = some (0, 1) := by kernel_rfl
theorem fO_118_1 : fieldO Try.prog 118 1 = some (1, 1) := by kernel_rfl
theorem fO_118_2 : fieldO Try.prog 118 2 = some (2, 1) := by kernel_rfl
theorem fO_118_3 : fieldO Try.prog 118 3 = some (3, 1) := by kernel_rfl
theorem fO_118_4 : fieldO Try.prog 118 4 = some (4, 1) := by kernel_rfl
theorem fO_118_5 : fieldO Try.prog 118 5 = some (5, 1) := by kernel_rfl
theorem fO_123_0 : fieldO Try.prog 123 0 = some (0, 1) := by kernel_rfl
theorem fO_123_1 : fieldO Try.prog 123 1 = some (1, 1) := by kernel_rfl
theorem fO_123_2 : fieldO Try.prog 123 2 = some (2, 1) := by kernel_rfl
theorem fO_123_3 : fieldO Try.prog 123 3 = some (3, 1) := by kernel_rfl
theorem fO_123_4 : fieldO Try.prog 123 4 = some (4, 1) := by kernel_rfl
theorem fO_123_5 : fieldO Try.prog 123 5 = some (5, 1) := by kernel_rfl
theorem fO_136_0 : fieldO Try.prog 136 0 = some (0, 1) := by kernel_rfl
theorem fO_136_1 : fieldO Try.prog 136 1 = some (1, 1) := by kernel_rfl
theorem fO_141_0 : fieldO Try.prog 141 0 = some (0, 1) := by kernel_rfl
theorem fO_141_1 : fieldO Try.prog 141 1 = some (1, 1) := by kernel_rfl
theorem fO_141_2 : fieldO Try.prog 141 2 = some (2, 1) := by kernel_rfl
theorem fO_141_3 : fieldO Try.prog 141 3 = some (3, 1) := by kernel_rfl
theorem fO_141_4 : fieldO Try.prog 141 4 = some (4, 1) := by kernel_rfl
theorem fO_141_5 : fieldO Try.prog 141 5 = some (5, 1) := by kernel_rfl
theorem fO_141_6 : fieldO Try.prog 141 6 = some (6, 1) := by kernel_rfl
theorem fO_145_0 : fieldO Try.prog 145 0 = some (0, 1) := by kernel_rfl
theorem fO_145_1 : fieldO Try.prog 145 1 = some (1, 128) := by kernel_rfl
theorem fO_156_0 : fieldO Try.prog 156 0 = some (0, 1) := by kernel_rfl
theorem fO_156_1 : fieldO Try.prog 156 1 = some (1, 1) := by kernel_rfl
theorem fO_158_0 : fieldO Try.prog 158 0 = some (0, 1) := by kernel_rfl
theorem fO_158_1 : fieldO Try.prog 158 1 = some (1, 1) := by kernel_rfl
theorem fO_158_2 : fieldO Try.prog 158 2 = some (2, 1) := by kernel_rfl
theorem fO_158_3 : fieldO Try.prog 158 3 = some (3, 1) := by kernel_rfl
theorem fO_158_4 : fieldO Try.prog 158 4 = some (4, 1) := by kernel_rfl
theorem fO_158_5 : fieldO Try.prog 158 5 = some (5, 1) := by kernel_rfl
theorem fO_164_0 : fieldO Try.prog 164 0 = some (0, 1) := by kernel_rfl
theorem fO_164_1 : fieldO Try.prog 164 1 = some (1, 1) := by kernel_rfl
theorem fO_164_2 : fieldO Try.prog 164 2 = some (2, 1) := by kernel_rfl
theorem fO_170_0 : fieldO Try.prog 170 0 = some (0, 1) := by kernel_rfl
theorem fO_170_1 : fieldO Try.prog 170 1 = some (1, 1) := by kernel_rfl
theorem fO_170_2 : fieldO Try.prog 170 2 = some (2, 1) := by kernel_rfl
theorem fO_170_3 : fieldO Try.prog 170 3 = some (3, 1) := by kernel_rfl
theorem fO_175_0 : fieldO Try.prog 175 0 = some (0, 3) := by kernel_rfl
theorem fO_175_1 : fieldO Try.prog 175 1 = some (3, 4) := by kernel_rfl
theorem fO_175_2 : fieldO Try.prog 175 2 = some (7, 1) := by kernel_rfl
theorem fO_175_3 : fieldO Try.prog 175 3 = some (8, 1) := by kernel_rfl
theorem fO_175_4 : fieldO Try.prog 175 4 = some (9, 1) := by kernel_rfl
theorem fO_175_5 : fieldO Try.prog 175 5 = some (10, 1) := by kernel_rfl
theorem fO_175_6 : fieldO Try.prog 175 6 = some (11, 1) := by kernel_rfl
theorem fO_177_0 : fieldO Try.prog 177 0 = some (0, 1) := by kernel_rfl
theorem fO_177_1 : fieldO Try.prog 177 1 = some (1, 1) := by kernel_rfl
theorem fO_177_2 : fieldO Try.prog 177 2 = some (2, 1) := by kernel_rfl
theorem fO_177_3 : fieldO Try.prog 177 3 = some (3, 1) := by kernel_rfl
theorem fO_177_4 : fieldO Try.prog 177 4 = some (4, 1) := by kernel_rfl
theorem fO_184_0 : fieldO Try.prog 184 0 = some (0, 3) := by kernel_rfl
theorem fO_184_1 : fieldO Try.prog 184 1 = some (3, 1) := by kernel_rfl
theorem fO_200_0 : fieldO Try.prog 200 0 = some (0, 1) := by kernel_rfl
theorem fO_200_1 : fieldO Try.prog 200 1 = some (1, 1) := by kernel_rfl
theorem fO_200_10 : fieldO Try.prog 200 10 = some (10, 1) := by kernel_rfl
theorem fO_200_11 : fieldO Try.prog 200 11 = some (11, 1) := by kernel_rfl
theorem fO_200_12 : fieldO Try.prog 200 12 = some (12, 1) := by kernel_rfl
theorem fO_200_2 : fieldO Try.prog 200 2 = some (2, 1) := by kernel_rfl
theorem fO_200_3 : fieldO Try.prog 200 3 = some (3, 1) := by kernel_rfl
theorem fO_200_4 : fieldO Try.prog 200 4 = some (4, 1) := by kernel_rfl
theorem fO_200_5 : fieldO Try.prog 200 5 = some (5, 1) := by kernel_rfl
theorem fO_200_6 : fieldO Try.prog 200 6 = some (6, 1) := by kernel_rfl
theorem fO_200_7 : fieldO Try.prog 200 7 = some (7, 1) := by kernel_rfl
theorem fO_200_8 : fieldO Try.prog 200 8 = some (8, 1) := by kernel_rfl
theorem fO_200_9 : fieldO Try.prog 200 9 = some (9, 1) := by kernel_rfl
theorem fO_37_0 : fieldO Try.prog 37 0 = some (0, 1) := by kernel_rfl
theorem fO_37_1 : fieldO Try.prog 37 1 = some (1, 1) := by kernel_rfl
theorem fO_37_2 : fieldO Try.prog 37 2 = some (2, 1) := by kernel_rfl
theorem fO_37_3 : fieldO Try.prog 37 3 = some (3, 1) := by kernel_rfl
theorem fO_51_0 : fieldO Try.prog 51 0 = some (0, 1) := by kernel_rfl
theorem fO_51_1 : fieldO Try.prog 51 1 = some (1, 1) := by kernel_rfl
theorem fO_59_0 : fieldO Try.prog 59 0 = some (0, 1) := by kernel_rfl
theorem fO_59_1 : fieldO Try.prog 59 1 = some (1, 1) := by kernel_rfl
theorem fO_59_2 : fieldO Try.prog 59 2 = some (2, 1) := by kernel_rfl
theorem fO_59_3 : fieldO Try.prog 59 3 = some (3, 1) := by kernel_rfl
theorem fO_59_4 : fieldO Try.prog 59 4 = some (4, 1) := by kernel_rfl
theorem fO_74_0 : fieldO Try.prog 74 0 = some (0, 2) := by kernel_rfl
theorem fO_74_1 : fieldO Try.prog 74 1 = some (2, 2) := by kernel_rfl
theorem fO_78_0 : fieldO Try.prog 78 0 = some (0, 1) := by kernel_rfl
theorem fO_78_1 : fieldO Try.prog 78 1 = some (1, 1) := by kernel_rfl
theorem fO_78_2 : fieldO Try.prog 78 2 = some (2, 1) := by kernel_rfl
theorem fO_78_3 : fieldO Try.prog 78 3 = some (3, 1) := by kernel_rfl
theorem fO_96_0 : fieldO Try.prog 96 0 = some (0, 1) := by kernel_rfl
theorem fO_96_1 : fieldO Try.prog 96 1 = some (1, 1) := by kernel_rfl
theorem fO_96_2 : fieldO Try.prog 96 2 = some (2, 1) := by kernel_rfl
theorem fO_96_3 : fieldO Try.prog 96 3 = some (3, 1) := by kernel_rfl
theorem fO_96_4 : fieldO Try.prog 96 4 = some (4, 1) := by kernel_rfl
theorem fO_96_5 : fieldO Try.prog 96 5 = some (5, 1) := by kernel_rfl
theorem fO_96_6 : fieldO Try.prog 96 6 = some (6, 1) := by kernel_rfl
theorem fO_99_0 : fieldO Try.prog 99 0 = some (0, 1) := by kernel_rfl
theorem fO_99_1 : fieldO Try.prog 99 1 = some (1, 1) := by kernel_rfl
theorem fO_99_2 : fieldO Try.prog 99 2 = some (2, 1) := by kernel_rfl
theorem iO_2 : intO Try.prog 2 = some .i64 := by kernel_rfl
theorem iO_206 : intO Try.prog 206 = some .u64 := by kernel_rfl
theorem iO_25 : intO Try.prog 25 = some .u32 := by kernel_rfl
theorem iO_3 : intO Try.prog 3 = some .i64 := by kernel_rfl
theorem iO_5 : intO Try.prog 5 = some .u8 := by kernel_rfl
theorem kO_110 : kindO Try.prog 110 = some (false, 1) := by kernel_rfl
theorem kO_114 : kindO Try.prog 114 = some (true, 7) := by kernel_rfl
theorem kO_123 : kindO Try.prog 123 = some (true, 6) := by kernel_rfl
theorem kO_137 : kindO Try.prog 137 = some (false, 1) := by kernel_rfl
theorem kO_138 : kindO Try.prog 138 = some (false, 1) := by kernel_rfl
theorem kO_139 : kindO Try.prog 139 = some (false, 1) := by kernel_rfl
theorem kO_143 : kindO Try.prog 143 = some (true, 128) := by kernel_rfl
theorem kO_145 : kindO Try.prog 145 = some (true, 129) := by kernel_rfl
theorem kO_149 : kindO Try.prog 149 = some (false, 1) := by kernel_rfl
theorem kO_156 : kindO Try.prog 156 = some (true, 2) := by kernel_rfl
theorem kO_164 : kindO Try.prog 164 = some (true, 3) := by kernel_rfl
theorem kO_170 : kindO Try.prog 170 = some (true, 4) := by kernel_rfl
theorem kO_173 : kindO Try.prog 173 = some (false, 1) := by kernel_rfl
theorem kO_177 : kindO Try.prog 177 = some (true, 5) := by kernel_rfl
theorem kO_178 : kindO Try.prog 178 = some (true, 128) := by kernel_rfl
theorem kO_184 : kindO Try.prog 184 = some (true, 4) := by kernel_rfl
theorem kO_193 : kindO Try.prog 193 = some (true, 16) := by kernel_rfl
theorem kO_198 : kindO Try.prog 198 = some (false, 1) := by kernel_rfl
theorem kO_2 : kindO Try.prog 2 = some (false, 1) := by kernel_rfl
theorem kO_24 : kindO Try.prog 24 = some (false, 1) := by kernel_rfl
theorem kO_25 : kindO Try.prog 25 = some (false, 1) := by kernel_rfl
theorem kO_3 : kindO Try.prog 3 = some (false, 1) := by kernel_rfl
theorem kO_30 : kindO Try.prog 30 = some (false, 1) := by kernel_rfl
theorem kO_31 : kindO Try.prog 31 = some (false, 1) := by kernel_rfl
theorem kO_34 : kindO Try.prog 34 = some (false, 1) := by kernel_rfl
theorem kO_35 : kindO Try.prog 35 = some (false, 1) := by kernel_rfl
theorem kO_37 : kindO Try.prog 37 = some (true, 4) := by kernel_rfl
theorem kO_4 : kindO Try.prog 4 = some (false, 1) := by kernel_rfl
theorem kO_5 : kindO Try.prog 5 = some (false, 1) := by kernel_rfl
theorem kO_51 : kindO Try.prog 51 = some (true, 4) := by kernel_rfl
theorem kO_59 : kindO Try.prog 59 = some (true, 5) := by kernel_rfl
theorem kO_71 : kindO Try.prog 71 = some (false, 1) := by kernel_rfl
theorem kO_76 : kindO Try.prog 76 = some (false, 1) := by kernel_rfl
theorem kO_93 : kindO Try.prog 93 = some (false, 1) := by kernel_rfl
theorem kO_94 : kindO Try.prog 94 = some (false, 1) := by kernel_rfl
theorem kO_97 : kindO Try.prog 97 = some (false, 1) := by kernel_rfl
theorem kO_99 : kindO Try.prog 99 = some (true, 3) := by kernel_rfl
theorem mO_139 : mapO Try.prog 139 = true := by kernel_rfl
theorem mixO : Try.prog.follows .mixedOrders = true := by kernel_rfl
theorem pO_159 : isPtr Try.prog 159 = true := by kernel_rfl
theorem pO_31 : isPtr Try.prog 31 = true := by kernel_rfl
theorem pO_71 : isPtr Try.prog 71 = true := by kernel_rfl
theorem pO_93 : isPtr Try.prog 93 = true := by kernel_rfl
theorem sO_110 : sliceO Try.prog 110 = some (97, 1, 24) := by kernel_rfl
theorem sO_121 : sliceO Try.prog 121 = some (114, 7, 88) := by kernel_rfl
theorem sO_137 : sliceO Try.prog 137 = some (143, 128, 128) := by kernel_rfl
theorem sO_138 : sliceO Try.prog 138 = some (145, 129, 136) := by kernel_rfl
theorem sO_149 : sliceO Try.prog 149 = some (156, 2, 32) := by kernel_rfl
theorem sO_173 : sliceO Try.prog 173 = some (184, 4, 48) := by kernel_rfl
theorem sO_198 : sliceO Try.prog 198 = some (2, 1, 8) := by kernel_rfl
theorem sO_24 : sliceO Try.prog 24 = some (5, 1, 1) := by kernel_rfl
theorem sO_29 : sliceO Try.prog 29 = some (37, 4, 80) := by kernel_rfl
theorem sO_30 : sliceO Try.prog 30 = some (4, 1, 1) := by kernel_rfl
theorem sO_34 : sliceO Try.prog 34 = some (24, 1, 24) := by kernel_rfl
theorem sO_35 : sliceO Try.prog 35 = some (136, 2, 16) := by kernel_rfl
theorem sO_42 : sliceO Try.prog 42 = some (3, 1, 8) := by kernel_rfl
theorem sO_56 : sliceO Try.prog 56 = some (59, 5, 72) := by kernel_rfl
theorem sO_76 : sliceO Try.prog 76 = some (149, 1, 24) := by kernel_rfl
theorem sO_97 : sliceO Try.prog 97 = some (99, 3, 40) := by kernel_rfl
theorem uI_5 : Try.prog.underlying 5 = some (.int .u8) := by kernel_rfl
theorem uS_24 : Try.prog.underlying 24 = some (.slice 5) := by kernel_rfl
theorem uT_9 : Try.prog.underlying 9 = some .string := by kernel_rfl
theorem zO_114 : zeroO Try.prog 114 = some [.int .i64 0, .int .i64 0, .int .i64 0, .int .i64 0, .bool false, .slice none 0 0, .slice none 0 0] := by kernel_rfl
theorem zO_116 : zeroO Try.prog 116 = some [.slice none 0 0, .slice none 0 0, .slice none 0 0] := by kernel_rfl
theorem zO_123 : zeroO Try.prog 123 = some [.int .i64 0, .int .i64 0, .int .i64 0, .int .i64 0, .int .i64 0, .int .i64 0] := by kernel_rfl
theorem zO_143 : zeroO Try.prog 143 = some ((List.replicate 128 (0 : UInt8)).map bv) := by kernel_rfl
theorem zO_145 : zeroO Try.prog 145 = some (.int .i64 0 :: (List.replicate 128 (0 : UInt8)).map bv) := by kernel_rfl
theorem zO_149 : zeroO Try.prog 149 = some [.slice none 0 0] := by kernel_rfl
theorem zO_156 : zeroO Try.prog 156 = some [.int .i64 0, .slice none 0 0] := by kernel_rfl
theorem zO_164 : zeroO Try.prog 164 = some [.pointer none, .int .i64 0, .int .i64 0] := by kernel_rfl
theorem zO_170 : zeroO Try.prog 170 = some [.int .i64 0, .int .i64 0, .int .i64 0, .int .i64 0] := by kernel_rfl
theorem zO_177 : zeroO Try.prog 177 = some [.int .i64 0, .int .i64 0, .int .u8 0, .int .i64 0, .int .i64 0] := by kernel_rfl
theorem zO_178 : zeroO Try.prog 178 = some ((List.replicate 128 (0 : UInt8)).map bv) := by kernel_rfl
theorem zO_184 : zeroO Try.prog 184 = some [.int .i64 0, .int .i64 0, .slice none 0 0, .int .i64 0] := by kernel_rfl
theorem zO_193 : zeroO Try.prog 193 = some [.int .u32 0, .int .u32 0, .int .u32 0, .int .u32 0, .int .u32 0, .int .u32 0, .int .u32 0, .int .u32 0, .int .u32 0, .int .u32 0, .int .u32 0, .int .u32 0, .int .u32 0, .int .u32 0, .int .u32 0, .int .u32 0] := by kernel_rfl
theorem zO_2 : zeroO Try.prog 2 = some [.int .i64 0] := by kernel_rfl
theorem zO_24 : zeroO Try.prog 24 = some [.slice none 0 0] := by kernel_rfl
theorem zO_37 : zeroO Try.prog 37 = some [.slice none 0 0, .slice none 0 0, .slice none 0 0, .bool false] := by kernel_rfl
theorem zO_4 : zeroO Try.prog 4 = some [.bool false] := by kernel_rfl
theorem zO_5 : zeroO Try.prog 5 = some [.int .u8 0] := by kernel_rfl
theorem zO_51 : zeroO Try.prog 51 = some [.int .i64 0, .int .i64 0, .int .i64 0, .bool false] := by kernel_rfl
theorem zO_59 : zeroO Try.prog 59 = some [.int .i64 0, .int .i64 0, .int .i64 0, .slice none 0 0, .slice none 0 0] := by kernel_rfl
theorem zO_97 : zeroO Try.prog 97 = some [.slice none 0 0] := by kernel_rfl
theorem zO_99 : zeroO Try.prog 99 = some [.int .i64 0, .int .i64 0, .slice none 0 0] := by kernel_rfl

end Go.Proofs.Ythpeadoidpimmaa

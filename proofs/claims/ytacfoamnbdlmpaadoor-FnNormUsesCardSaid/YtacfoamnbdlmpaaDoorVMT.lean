/- The functions of the seat, all of them, are those of the machine. Conditions: none. -/
import Derived.Test.YtacfoamnbdlmpaaDoorVMS
import Derived.Test.YtacfoamnbdlmpaaDoorVM32
import Derived.Test.YtacfoamnbdlmpaaDoorVM31

namespace Go.VM
open Go.Proofs
set_option maxRecDepth 100000
theorem at_60 : Tryd.prog.funcs[fidOf cidTab 60]? = some Tryd.f122 := by rw [show fidOf cidTab 60 = 122 from by kernel_rfl]; exact Tryd.func122
theorem at_65 : Tryd.prog.funcs[fidOf cidTab 65]? = some Tryd.f67 := by rw [show fidOf cidTab 65 = 67 from by kernel_rfl]; exact Tryd.func67
theorem at_67 : Tryd.prog.funcs[fidOf cidTab 67]? = some Tryd.f69 := by rw [show fidOf cidTab 67 = 69 from by kernel_rfl]; exact Tryd.func69
theorem at_96 : Tryd.prog.funcs[fidOf cidTab 96]? = some Tryd.f72 := by rw [show fidOf cidTab 96 = 72 from by kernel_rfl]; exact Tryd.func72
theorem at_102 : Tryd.prog.funcs[fidOf cidTab 102]? = some Tryd.f4 := by rw [show fidOf cidTab 102 = 4 from by kernel_rfl]; exact Tryd.func4
theorem at_103 : Tryd.prog.funcs[fidOf cidTab 103]? = some Tryd.f5 := by rw [show fidOf cidTab 103 = 5 from by kernel_rfl]; exact Tryd.func5
theorem at_104 : Tryd.prog.funcs[fidOf cidTab 104]? = some Tryd.f18 := by rw [show fidOf cidTab 104 = 18 from by kernel_rfl]; exact Tryd.func18
theorem at_105 : Tryd.prog.funcs[fidOf cidTab 105]? = some Tryd.f19 := by rw [show fidOf cidTab 105 = 19 from by kernel_rfl]; exact Tryd.func19
theorem at_106 : Tryd.prog.funcs[fidOf cidTab 106]? = some Tryd.f20 := by rw [show fidOf cidTab 106 = 20 from by kernel_rfl]; exact Tryd.func20
theorem at_107 : Tryd.prog.funcs[fidOf cidTab 107]? = some Tryd.f21 := by rw [show fidOf cidTab 107 = 21 from by kernel_rfl]; exact Tryd.func21
theorem at_108 : Tryd.prog.funcs[fidOf cidTab 108]? = some Tryd.f23 := by rw [show fidOf cidTab 108 = 23 from by kernel_rfl]; exact Tryd.func23
theorem at_109 : Tryd.prog.funcs[fidOf cidTab 109]? = some Tryd.f22 := by rw [show fidOf cidTab 109 = 22 from by kernel_rfl]; exact Tryd.func22
theorem at_110 : Tryd.prog.funcs[fidOf cidTab 110]? = some Tryd.f24 := by rw [show fidOf cidTab 110 = 24 from by kernel_rfl]; exact Tryd.func24
theorem at_111 : Tryd.prog.funcs[fidOf cidTab 111]? = some Tryd.f25 := by rw [show fidOf cidTab 111 = 25 from by kernel_rfl]; exact Tryd.func25
theorem at_112 : Tryd.prog.funcs[fidOf cidTab 112]? = some Tryd.f26 := by rw [show fidOf cidTab 112 = 26 from by kernel_rfl]; exact Tryd.func26
theorem at_113 : Tryd.prog.funcs[fidOf cidTab 113]? = some Tryd.f27 := by rw [show fidOf cidTab 113 = 27 from by kernel_rfl]; exact Tryd.func27
theorem at_114 : Tryd.prog.funcs[fidOf cidTab 114]? = some Tryd.f28 := by rw [show fidOf cidTab 114 = 28 from by kernel_rfl]; exact Tryd.func28
theorem at_115 : Tryd.prog.funcs[fidOf cidTab 115]? = some Tryd.f68 := by rw [show fidOf cidTab 115 = 68 from by kernel_rfl]; exact Tryd.func68
theorem at_116 : Tryd.prog.funcs[fidOf cidTab 116]? = some Tryd.f70 := by rw [show fidOf cidTab 116 = 70 from by kernel_rfl]; exact Tryd.func70
theorem at_117 : Tryd.prog.funcs[fidOf cidTab 117]? = some Tryd.f71 := by rw [show fidOf cidTab 117 = 71 from by kernel_rfl]; exact Tryd.func71
theorem at_118 : Tryd.prog.funcs[fidOf cidTab 118]? = some Tryd.f73 := by rw [show fidOf cidTab 118 = 73 from by kernel_rfl]; exact Tryd.func73
theorem at_119 : Tryd.prog.funcs[fidOf cidTab 119]? = some Tryd.f74 := by rw [show fidOf cidTab 119 = 74 from by kernel_rfl]; exact Tryd.func74
theorem at_120 : Tryd.prog.funcs[fidOf cidTab 120]? = some Tryd.f75 := by rw [show fidOf cidTab 120 = 75 from by kernel_rfl]; exact Tryd.func75
theorem at_121 : Tryd.prog.funcs[fidOf cidTab 121]? = some Tryd.f76 := by rw [show fidOf cidTab 121 = 76 from by kernel_rfl]; exact Tryd.func76
theorem at_122 : Tryd.prog.funcs[fidOf cidTab 122]? = some Tryd.f77 := by rw [show fidOf cidTab 122 = 77 from by kernel_rfl]; exact Tryd.func77
theorem at_123 : Tryd.prog.funcs[fidOf cidTab 123]? = some Tryd.f83 := by rw [show fidOf cidTab 123 = 83 from by kernel_rfl]; exact Tryd.func83
theorem at_124 : Tryd.prog.funcs[fidOf cidTab 124]? = some Tryd.f85 := by rw [show fidOf cidTab 124 = 85 from by kernel_rfl]; exact Tryd.func85
theorem at_125 : Tryd.prog.funcs[fidOf cidTab 125]? = some Tryd.f84 := by rw [show fidOf cidTab 125 = 84 from by kernel_rfl]; exact Tryd.func84
theorem at_126 : Tryd.prog.funcs[fidOf cidTab 126]? = some Tryd.f78 := by rw [show fidOf cidTab 126 = 78 from by kernel_rfl]; exact Tryd.func78
theorem at_127 : Tryd.prog.funcs[fidOf cidTab 127]? = some Tryd.f79 := by rw [show fidOf cidTab 127 = 79 from by kernel_rfl]; exact Tryd.func79
theorem at_128 : Tryd.prog.funcs[fidOf cidTab 128]? = some Tryd.f86 := by rw [show fidOf cidTab 128 = 86 from by kernel_rfl]; exact Tryd.func86
theorem at_129 : Tryd.prog.funcs[fidOf cidTab 129]? = some Tryd.f87 := by rw [show fidOf cidTab 129 = 87 from by kernel_rfl]; exact Tryd.func87
theorem at_130 : Tryd.prog.funcs[fidOf cidTab 130]? = some Tryd.f88 := by rw [show fidOf cidTab 130 = 88 from by kernel_rfl]; exact Tryd.func88
theorem at_131 : Tryd.prog.funcs[fidOf cidTab 131]? = some Tryd.f89 := by rw [show fidOf cidTab 131 = 89 from by kernel_rfl]; exact Tryd.func89
theorem at_132 : Tryd.prog.funcs[fidOf cidTab 132]? = some Tryd.f90 := by rw [show fidOf cidTab 132 = 90 from by kernel_rfl]; exact Tryd.func90
theorem at_133 : Tryd.prog.funcs[fidOf cidTab 133]? = some Tryd.f91 := by rw [show fidOf cidTab 133 = 91 from by kernel_rfl]; exact Tryd.func91
theorem at_134 : Tryd.prog.funcs[fidOf cidTab 134]? = some Tryd.f100 := by rw [show fidOf cidTab 134 = 100 from by kernel_rfl]; exact Tryd.func100
theorem at_135 : Tryd.prog.funcs[fidOf cidTab 135]? = some Tryd.f101 := by rw [show fidOf cidTab 135 = 101 from by kernel_rfl]; exact Tryd.func101
theorem at_136 : Tryd.prog.funcs[fidOf cidTab 136]? = some Tryd.f102 := by rw [show fidOf cidTab 136 = 102 from by kernel_rfl]; exact Tryd.func102
theorem at_137 : Tryd.prog.funcs[fidOf cidTab 137]? = some Tryd.f45 := by rw [show fidOf cidTab 137 = 45 from by kernel_rfl]; exact Tryd.func45
theorem at_138 : Tryd.prog.funcs[fidOf cidTab 138]? = some Tryd.f149 := by rw [show fidOf cidTab 138 = 149 from by kernel_rfl]; exact Tryd.func149
theorem at_139 : Tryd.prog.funcs[fidOf cidTab 139]? = some Tryd.f142 := by rw [show fidOf cidTab 139 = 142 from by kernel_rfl]; exact Tryd.func142
theorem at_140 : Tryd.prog.funcs[fidOf cidTab 140]? = some Tryd.f150 := by rw [show fidOf cidTab 140 = 150 from by kernel_rfl]; exact Tryd.func150
theorem at_141 : Tryd.prog.funcs[fidOf cidTab 141]? = some Tryd.f151 := by rw [show fidOf cidTab 141 = 151 from by kernel_rfl]; exact Tryd.func151
theorem at_142 : Tryd.prog.funcs[fidOf cidTab 142]? = some Tryd.f94 := by rw [show fidOf cidTab 142 = 94 from by kernel_rfl]; exact Tryd.func94
theorem at_143 : Tryd.prog.funcs[fidOf cidTab 143]? = some Tryd.f152 := by rw [show fidOf cidTab 143 = 152 from by kernel_rfl]; exact Tryd.func152
theorem at_144 : Tryd.prog.funcs[fidOf cidTab 144]? = some Tryd.f93 := by rw [show fidOf cidTab 144 = 93 from by kernel_rfl]; exact Tryd.func93
theorem at_145 : Tryd.prog.funcs[fidOf cidTab 145]? = some Tryd.f155 := by rw [show fidOf cidTab 145 = 155 from by kernel_rfl]; exact Tryd.func155
theorem at_146 : Tryd.prog.funcs[fidOf cidTab 146]? = some Tryd.f157 := by rw [show fidOf cidTab 146 = 157 from by kernel_rfl]; exact Tryd.func157
theorem at_147 : Tryd.prog.funcs[fidOf cidTab 147]? = some Tryd.f156 := by rw [show fidOf cidTab 147 = 156 from by kernel_rfl]; exact Tryd.func156
theorem at_148 : Tryd.prog.funcs[fidOf cidTab 148]? = some Tryd.f80 := by rw [show fidOf cidTab 148 = 80 from by kernel_rfl]; exact Tryd.func80
theorem at_149 : Tryd.prog.funcs[fidOf cidTab 149]? = some Tryd.f81 := by rw [show fidOf cidTab 149 = 81 from by kernel_rfl]; exact Tryd.func81
theorem at_150 : Tryd.prog.funcs[fidOf cidTab 150]? = some Tryd.f82 := by rw [show fidOf cidTab 150 = 82 from by kernel_rfl]; exact Tryd.func82
theorem at_151 : Tryd.prog.funcs[fidOf cidTab 151]? = some Tryd.f158 := by rw [show fidOf cidTab 151 = 158 from by kernel_rfl]; exact Tryd.func158
theorem at_152 : Tryd.prog.funcs[fidOf cidTab 152]? = some Tryd.f159 := by rw [show fidOf cidTab 152 = 159 from by kernel_rfl]; exact Tryd.func159
theorem at_153 : Tryd.prog.funcs[fidOf cidTab 153]? = some Tryd.f160 := by rw [show fidOf cidTab 153 = 160 from by kernel_rfl]; exact Tryd.func160
theorem at_154 : Tryd.prog.funcs[fidOf cidTab 154]? = some Tryd.f161 := by rw [show fidOf cidTab 154 = 161 from by kernel_rfl]; exact Tryd.func161
theorem at_155 : Tryd.prog.funcs[fidOf cidTab 155]? = some Tryd.f163 := by rw [show fidOf cidTab 155 = 163 from by kernel_rfl]; exact Tryd.func163
theorem at_156 : Tryd.prog.funcs[fidOf cidTab 156]? = some Tryd.f164 := by rw [show fidOf cidTab 156 = 164 from by kernel_rfl]; exact Tryd.func164
theorem at_157 : Tryd.prog.funcs[fidOf cidTab 157]? = some Tryd.f165 := by rw [show fidOf cidTab 157 = 165 from by kernel_rfl]; exact Tryd.func165
theorem at_158 : Tryd.prog.funcs[fidOf cidTab 158]? = some Tryd.f107 := by rw [show fidOf cidTab 158 = 107 from by kernel_rfl]; exact Tryd.func107
theorem at_159 : Tryd.prog.funcs[fidOf cidTab 159]? = some Tryd.f126 := by rw [show fidOf cidTab 159 = 126 from by kernel_rfl]; exact Tryd.func126
theorem at_160 : Tryd.prog.funcs[fidOf cidTab 160]? = some Tryd.f127 := by rw [show fidOf cidTab 160 = 127 from by kernel_rfl]; exact Tryd.func127
theorem at_161 : Tryd.prog.funcs[fidOf cidTab 161]? = some Tryd.f128 := by rw [show fidOf cidTab 161 = 128 from by kernel_rfl]; exact Tryd.func128
theorem at_162 : Tryd.prog.funcs[fidOf cidTab 162]? = some Tryd.f129 := by rw [show fidOf cidTab 162 = 129 from by kernel_rfl]; exact Tryd.func129
theorem at_163 : Tryd.prog.funcs[fidOf cidTab 163]? = some Tryd.f61 := by rw [show fidOf cidTab 163 = 61 from by kernel_rfl]; exact Tryd.func61
theorem at_164 : Tryd.prog.funcs[fidOf cidTab 164]? = some Tryd.f195 := by rw [show fidOf cidTab 164 = 195 from by kernel_rfl]; exact Tryd.func195
theorem at_165 : Tryd.prog.funcs[fidOf cidTab 165]? = some Tryd.f194 := by rw [show fidOf cidTab 165 = 194 from by kernel_rfl]; exact Tryd.func194
theorem at_166 : Tryd.prog.funcs[fidOf cidTab 166]? = some Tryd.f37 := by rw [show fidOf cidTab 166 = 37 from by kernel_rfl]; exact Tryd.func37
theorem at_167 : Tryd.prog.funcs[fidOf cidTab 167]? = some Tryd.f196 := by rw [show fidOf cidTab 167 = 196 from by kernel_rfl]; exact Tryd.func196
theorem at_168 : Tryd.prog.funcs[fidOf cidTab 168]? = some Tryd.f58 := by rw [show fidOf cidTab 168 = 58 from by kernel_rfl]; exact Tryd.func58
theorem at_169 : Tryd.prog.funcs[fidOf cidTab 169]? = some Tryd.f38 := by rw [show fidOf cidTab 169 = 38 from by kernel_rfl]; exact Tryd.func38
theorem at_170 : Tryd.prog.funcs[fidOf cidTab 170]? = some Tryd.f197 := by rw [show fidOf cidTab 170 = 197 from by kernel_rfl]; exact Tryd.func197
theorem at_171 : Tryd.prog.funcs[fidOf cidTab 171]? = some Tryd.f198 := by rw [show fidOf cidTab 171 = 198 from by kernel_rfl]; exact Tryd.func198
theorem at_172 : Tryd.prog.funcs[fidOf cidTab 172]? = some Tryd.f199 := by rw [show fidOf cidTab 172 = 199 from by kernel_rfl]; exact Tryd.func199
theorem at_173 : Tryd.prog.funcs[fidOf cidTab 173]? = some Tryd.f200 := by rw [show fidOf cidTab 173 = 200 from by kernel_rfl]; exact Tryd.func200
theorem at_174 : Tryd.prog.funcs[fidOf cidTab 174]? = some Tryd.f201 := by rw [show fidOf cidTab 174 = 201 from by kernel_rfl]; exact Tryd.func201
theorem at_175 : Tryd.prog.funcs[fidOf cidTab 175]? = some Tryd.f153 := by rw [show fidOf cidTab 175 = 153 from by kernel_rfl]; exact Tryd.func153
theorem at_176 : Tryd.prog.funcs[fidOf cidTab 176]? = some Tryd.f154 := by rw [show fidOf cidTab 176 = 154 from by kernel_rfl]; exact Tryd.func154
theorem at_177 : Tryd.prog.funcs[fidOf cidTab 177]? = some Tryd.f202 := by rw [show fidOf cidTab 177 = 202 from by kernel_rfl]; exact Tryd.func202
theorem at_178 : Tryd.prog.funcs[fidOf cidTab 178]? = some Tryd.f203 := by rw [show fidOf cidTab 178 = 203 from by kernel_rfl]; exact Tryd.func203
theorem at_179 : Tryd.prog.funcs[fidOf cidTab 179]? = some Tryd.f204 := by rw [show fidOf cidTab 179 = 204 from by kernel_rfl]; exact Tryd.func204
theorem at_180 : Tryd.prog.funcs[fidOf cidTab 180]? = some Tryd.f171 := by rw [show fidOf cidTab 180 = 171 from by kernel_rfl]; exact Tryd.func171
theorem at_181 : Tryd.prog.funcs[fidOf cidTab 181]? = some Tryd.f180 := by rw [show fidOf cidTab 181 = 180 from by kernel_rfl]; exact Tryd.func180
theorem at_182 : Tryd.prog.funcs[fidOf cidTab 182]? = some Tryd.f181 := by rw [show fidOf cidTab 182 = 181 from by kernel_rfl]; exact Tryd.func181
theorem at_183 : Tryd.prog.funcs[fidOf cidTab 183]? = some Tryd.f145 := by rw [show fidOf cidTab 183 = 145 from by kernel_rfl]; exact Tryd.func145
theorem at_184 : Tryd.prog.funcs[fidOf cidTab 184]? = some Tryd.f146 := by rw [show fidOf cidTab 184 = 146 from by kernel_rfl]; exact Tryd.func146
theorem at_185 : Tryd.prog.funcs[fidOf cidTab 185]? = some Tryd.f182 := by rw [show fidOf cidTab 185 = 182 from by kernel_rfl]; exact Tryd.func182
theorem at_186 : Tryd.prog.funcs[fidOf cidTab 186]? = some Tryd.f144 := by rw [show fidOf cidTab 186 = 144 from by kernel_rfl]; exact Tryd.func144
theorem at_187 : Tryd.prog.funcs[fidOf cidTab 187]? = some Tryd.f108 := by rw [show fidOf cidTab 187 = 108 from by kernel_rfl]; exact Tryd.func108
theorem at_188 : Tryd.prog.funcs[fidOf cidTab 188]? = some Tryd.f109 := by rw [show fidOf cidTab 188 = 109 from by kernel_rfl]; exact Tryd.func109
theorem at_189 : Tryd.prog.funcs[fidOf cidTab 189]? = some Tryd.f219 := by rw [show fidOf cidTab 189 = 219 from by kernel_rfl]; exact Tryd.func219
theorem at_190 : Tryd.prog.funcs[fidOf cidTab 190]? = some Tryd.f220 := by rw [show fidOf cidTab 190 = 220 from by kernel_rfl]; exact Tryd.func220
theorem at_191 : Tryd.prog.funcs[fidOf cidTab 191]? = some Tryd.f222 := by rw [show fidOf cidTab 191 = 222 from by kernel_rfl]; exact Tryd.func222
theorem at_192 : Tryd.prog.funcs[fidOf cidTab 192]? = some Tryd.f221 := by rw [show fidOf cidTab 192 = 221 from by kernel_rfl]; exact Tryd.func221
theorem at_193 : Tryd.prog.funcs[fidOf cidTab 193]? = some Tryd.f210 := by rw [show fidOf cidTab 193 = 210 from by kernel_rfl]; exact Tryd.func210
theorem at_194 : Tryd.prog.funcs[fidOf cidTab 194]? = some Tryd.f215 := by rw [show fidOf cidTab 194 = 215 from by kernel_rfl]; exact Tryd.func215
theorem at_195 : Tryd.prog.funcs[fidOf cidTab 195]? = some Tryd.f193 := by rw [show fidOf cidTab 195 = 193 from by kernel_rfl]; exact Tryd.func193
theorem at_196 : Tryd.prog.funcs[fidOf cidTab 196]? = some Tryd.f192 := by rw [show fidOf cidTab 196 = 192 from by kernel_rfl]; exact Tryd.func192
theorem at_197 : Tryd.prog.funcs[fidOf cidTab 197]? = some Tryd.f191 := by rw [show fidOf cidTab 197 = 191 from by kernel_rfl]; exact Tryd.func191
theorem at_198 : Tryd.prog.funcs[fidOf cidTab 198]? = some Tryd.f190 := by rw [show fidOf cidTab 198 = 190 from by kernel_rfl]; exact Tryd.func190
theorem at_199 : Tryd.prog.funcs[fidOf cidTab 199]? = some Tryd.f225 := by rw [show fidOf cidTab 199 = 225 from by kernel_rfl]; exact Tryd.func225
theorem at_200 : Tryd.prog.funcs[fidOf cidTab 200]? = some Tryd.f188 := by rw [show fidOf cidTab 200 = 188 from by kernel_rfl]; exact Tryd.func188
theorem at_201 : Tryd.prog.funcs[fidOf cidTab 201]? = some Tryd.f218 := by rw [show fidOf cidTab 201 = 218 from by kernel_rfl]; exact Tryd.func218
theorem at_202 : Tryd.prog.funcs[fidOf cidTab 202]? = some Tryd.f217 := by rw [show fidOf cidTab 202 = 217 from by kernel_rfl]; exact Tryd.func217
theorem strips : ∀ p ∈ tab, ∃ fn, Tryd.prog.funcs[fidOf cidTab p.1]? = some fn ∧ stripF Tryd.prog (cidOf cidTab) fn = some p.2 := by
  simp only [tab, List.forall_mem_cons]
  exact ⟨⟨_, at_60, strip_60⟩, ⟨_, at_65, strip_65⟩, ⟨_, at_67, strip_67⟩, ⟨_, at_96, strip_96⟩, ⟨_, at_102, strip_102⟩, ⟨_, at_103, strip_103⟩, ⟨_, at_104, strip_104⟩, ⟨_, at_105, strip_105⟩, ⟨_, at_106, strip_106⟩, ⟨_, at_107, strip_107⟩, ⟨_, at_108, strip_108⟩, ⟨_, at_109, strip_109⟩, ⟨_, at_110, strip_110⟩, ⟨_, at_111, strip_111⟩, ⟨_, at_112, strip_112⟩, ⟨_, at_113, strip_113⟩, ⟨_, at_114, strip_114⟩, ⟨_, at_115, strip_115⟩, ⟨_, at_116, strip_116⟩, ⟨_, at_117, strip_117⟩, ⟨_, at_118, strip_118⟩, ⟨_, at_119, strip_119⟩, ⟨_, at_120, strip_120⟩, ⟨_, at_121, strip_121⟩, ⟨_, at_122, strip_122⟩, ⟨_, at_123, strip_123⟩, ⟨_, at_124, strip_124⟩, ⟨_, at_125, strip_125⟩, ⟨_, at_126, strip_126⟩, ⟨_, at_127, strip_127⟩, ⟨_, at_128, strip_128⟩, ⟨_, at_129, strip_129⟩, ⟨_, at_130, strip_130⟩, ⟨_, at_131, strip_131⟩, ⟨_, at_132, strip_132⟩, ⟨_, at_133, strip_133⟩, ⟨_, at_134, strip_134⟩, ⟨_, at_135, strip_135⟩, ⟨_, at_136, strip_136⟩, ⟨_, at_137, strip_137⟩, ⟨_, at_138, strip_138⟩, ⟨_, at_139, strip_139⟩, ⟨_, at_140, strip_140⟩, ⟨_, at_141, strip_141⟩, ⟨_, at_142, strip_142⟩, ⟨_, at_143, strip_143⟩, ⟨_, at_144, strip_144⟩, ⟨_, at_145, strip_145⟩, ⟨_, at_146, strip_146⟩, ⟨_, at_147, strip_147⟩, ⟨_, at_148, strip_148⟩, ⟨_, at_149, strip_149⟩, ⟨_, at_150, strip_150⟩, ⟨_, at_151, strip_151⟩, ⟨_, at_152, strip_152⟩, ⟨_, at_153, strip_153⟩, ⟨_, at_154, strip_154⟩, ⟨_, at_155, strip_155⟩, ⟨_, at_156, strip_156⟩, ⟨_, at_157, strip_157⟩, ⟨_, at_158, strip_158⟩, ⟨_, at_159, strip_159⟩, ⟨_, at_160, strip_160⟩, ⟨_, at_161, strip_161⟩, ⟨_, at_162, strip_162⟩, ⟨_, at_163, strip_163⟩, ⟨_, at_164, strip_164⟩, ⟨_, at_165, strip_165⟩, ⟨_, at_166, strip_166⟩, ⟨_, at_167, strip_167⟩, ⟨_, at_168, strip_168⟩, ⟨_, at_169, strip_169⟩, ⟨_, at_170, strip_170⟩, ⟨_, at_171, strip_171⟩, ⟨_, at_172, strip_172⟩, ⟨_, at_173, strip_173⟩, ⟨_, at_174, strip_174⟩, ⟨_, at_175, strip_175⟩, ⟨_, at_176, strip_176⟩, ⟨_, at_177, strip_177⟩, ⟨_, at_178, strip_178⟩, ⟨_, at_179, strip_179⟩, ⟨_, at_180, strip_180⟩, ⟨_, at_181, strip_181⟩, ⟨_, at_182, strip_182⟩, ⟨_, at_183, strip_183⟩, ⟨_, at_184, strip_184⟩, ⟨_, at_185, strip_185⟩, ⟨_, at_186, strip_186⟩, ⟨_, at_187, strip_187⟩, ⟨_, at_188, strip_188⟩, ⟨_, at_189, strip_189⟩, ⟨_, at_190, strip_190⟩, ⟨_, at_191, strip_191⟩, ⟨_, at_192, strip_192⟩, ⟨_, at_193, strip_193⟩, ⟨_, at_194, strip_194⟩, ⟨_, at_195, strip_195⟩, ⟨_, at_196, strip_196⟩, ⟨_, at_197, strip_197⟩, ⟨_, at_198, strip_198⟩, ⟨_, at_199, strip_199⟩, ⟨_, at_200, strip_200⟩, ⟨_, at_201, strip_201⟩, ⟨_, at_202, strip_202⟩, fun _ h => absurd h List.not_mem_nil⟩
theorem cid_ok : ∀ f, fidOf cidTab (cidOf cidTab f) = f := fid_cid (by kernel_rfl)
theorem mix : Tryd.prog.follows .mixedOrders = true := by kernel_rfl
theorem FT_ok : ∀ f F, FT f = some F → ∃ fn, Tryd.prog.funcs[fidOf cidTab f]? = some fn ∧ stripF Tryd.prog (cidOf cidTab) fn = some F := tab_ok strips
theorem orc_ok : ∀ f args s r, orc f = true → ans f args = some r → CallOK Tryd.prog (fidOf cidTab) GT f args [] s r := by
  intro f args s r hf hr
  have key : ∀ sz bytes zero, FT f = some (cloneF sz bytes zero) → zero.length = sz → cloneIds.lookup f = some (sz, bytes) → CallOK Tryd.prog (fidOf cidTab) GT f args [] s r := by
    intro sz bytes zero h1 h2 h3
    obtain ⟨fn, a1, a2⟩ := FT_ok f _ h1
    unfold ans at hr
    rw [h3] at hr
    split at hr
    · rename_i e
      cases e
      split at hr
      · rename_i hc
        simp only [Bool.and_eq_true] at hc
        cases hr
        exact clone_ok cid_ok mix a1 a2 h2 hc.1 hc.2
      · cases hr
    · cases hr
  unfold orc at hf
  have hcase : f = 164 ∨ f = 191 ∨ f = 197 := by
    by_cases e1 : f = 164
    · exact .inl e1
    by_cases e2 : f = 191
    · exact .inr (.inl e2)
    by_cases e3 : f = 197
    · exact .inr (.inr e3)
    have : cloneIds.lookup f = none := by simp [cloneIds, List.lookup, show (f == 164) = false from by simpa using e1, show (f == 191) = false from by simpa using e2, show (f == 197) = false from by simpa using e3]
    rw [this] at hf; cases hf
  rcases hcase with rfl | rfl | rfl
  · exact key 4 64 [.s (.int .i64 0), .s (.int .i64 0), .l 0 [], .l 0 []] rfl rfl rfl
  · exact key 2 32 [.s (.int .i64 0), .l 0 []] rfl rfl rfl
  · exact key 3 24 [.s (.int .i64 0), .s (.int .i64 0), .s (.int .i64 0)] rfl rfl rfl
theorem go_ok (n f : Nat) (args : List V) (bs : List Box) (s : Sup) (r : Res) : go n f args bs s = some r → CallOK Tryd.prog (fidOf cidTab) GT f args bs s r :=
  run2_ok cid_ok mix FT_ok orc_ok n f args bs s r
end Go.VM

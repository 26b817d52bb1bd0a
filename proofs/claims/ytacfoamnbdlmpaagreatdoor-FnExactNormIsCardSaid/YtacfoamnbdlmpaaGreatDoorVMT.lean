/- The functions of the seat, all of them, are those of the machine. Conditions: none. -/
import Derived.Test.YtacfoamnbdlmpaaGreatDoorVMS
import Derived.Test.YtacfoamnbdlmpaaGreatDoorVME
import Derived.Test.YtacfoamnbdlmpaaGreatDoorVM31

namespace Go.VM
open Go.Proofs
set_option maxRecDepth 100000
theorem at_60 : Tryz.prog.funcs[fidOf cidTab 60]? = some Tryz.f105 := by rw [show fidOf cidTab 60 = 105 from by kernel_rfl]; exact Tryz.func105
theorem at_65 : Tryz.prog.funcs[fidOf cidTab 65]? = some Tryz.f24 := by rw [show fidOf cidTab 65 = 24 from by kernel_rfl]; exact Tryz.func24
theorem at_67 : Tryz.prog.funcs[fidOf cidTab 67]? = some Tryz.f26 := by rw [show fidOf cidTab 67 = 26 from by kernel_rfl]; exact Tryz.func26
theorem at_96 : Tryz.prog.funcs[fidOf cidTab 96]? = some Tryz.f84 := by rw [show fidOf cidTab 96 = 84 from by kernel_rfl]; exact Tryz.func84
theorem at_106 : Tryz.prog.funcs[fidOf cidTab 106]? = some Tryz.f8 := by rw [show fidOf cidTab 106 = 8 from by kernel_rfl]; exact Tryz.func8
theorem at_107 : Tryz.prog.funcs[fidOf cidTab 107]? = some Tryz.f28 := by rw [show fidOf cidTab 107 = 28 from by kernel_rfl]; exact Tryz.func28
theorem at_108 : Tryz.prog.funcs[fidOf cidTab 108]? = some Tryz.f10 := by rw [show fidOf cidTab 108 = 10 from by kernel_rfl]; exact Tryz.func10
theorem at_109 : Tryz.prog.funcs[fidOf cidTab 109]? = some Tryz.f12 := by rw [show fidOf cidTab 109 = 12 from by kernel_rfl]; exact Tryz.func12
theorem at_110 : Tryz.prog.funcs[fidOf cidTab 110]? = some Tryz.f34 := by rw [show fidOf cidTab 110 = 34 from by kernel_rfl]; exact Tryz.func34
theorem at_111 : Tryz.prog.funcs[fidOf cidTab 111]? = some Tryz.f13 := by rw [show fidOf cidTab 111 = 13 from by kernel_rfl]; exact Tryz.func13
theorem at_115 : Tryz.prog.funcs[fidOf cidTab 115]? = some Tryz.f119 := by rw [show fidOf cidTab 115 = 119 from by kernel_rfl]; exact Tryz.func119
theorem at_116 : Tryz.prog.funcs[fidOf cidTab 116]? = some Tryz.f93 := by rw [show fidOf cidTab 116 = 93 from by kernel_rfl]; exact Tryz.func93
theorem at_117 : Tryz.prog.funcs[fidOf cidTab 117]? = some Tryz.f83 := by rw [show fidOf cidTab 117 = 83 from by kernel_rfl]; exact Tryz.func83
theorem at_118 : Tryz.prog.funcs[fidOf cidTab 118]? = some Tryz.f44 := by rw [show fidOf cidTab 118 = 44 from by kernel_rfl]; exact Tryz.func44
theorem at_119 : Tryz.prog.funcs[fidOf cidTab 119]? = some Tryz.f72 := by rw [show fidOf cidTab 119 = 72 from by kernel_rfl]; exact Tryz.func72
theorem at_120 : Tryz.prog.funcs[fidOf cidTab 120]? = some Tryz.f100 := by rw [show fidOf cidTab 120 = 100 from by kernel_rfl]; exact Tryz.func100
theorem at_121 : Tryz.prog.funcs[fidOf cidTab 121]? = some Tryz.f29 := by rw [show fidOf cidTab 121 = 29 from by kernel_rfl]; exact Tryz.func29
theorem at_122 : Tryz.prog.funcs[fidOf cidTab 122]? = some Tryz.f58 := by rw [show fidOf cidTab 122 = 58 from by kernel_rfl]; exact Tryz.func58
theorem at_123 : Tryz.prog.funcs[fidOf cidTab 123]? = some Tryz.f30 := by rw [show fidOf cidTab 123 = 30 from by kernel_rfl]; exact Tryz.func30
theorem at_124 : Tryz.prog.funcs[fidOf cidTab 124]? = some Tryz.f31 := by rw [show fidOf cidTab 124 = 31 from by kernel_rfl]; exact Tryz.func31
theorem at_125 : Tryz.prog.funcs[fidOf cidTab 125]? = some Tryz.f32 := by rw [show fidOf cidTab 125 = 32 from by kernel_rfl]; exact Tryz.func32
theorem at_126 : Tryz.prog.funcs[fidOf cidTab 126]? = some Tryz.f35 := by rw [show fidOf cidTab 126 = 35 from by kernel_rfl]; exact Tryz.func35
theorem at_127 : Tryz.prog.funcs[fidOf cidTab 127]? = some Tryz.f36 := by rw [show fidOf cidTab 127 = 36 from by kernel_rfl]; exact Tryz.func36
theorem at_128 : Tryz.prog.funcs[fidOf cidTab 128]? = some Tryz.f25 := by rw [show fidOf cidTab 128 = 25 from by kernel_rfl]; exact Tryz.func25
theorem at_129 : Tryz.prog.funcs[fidOf cidTab 129]? = some Tryz.f121 := by rw [show fidOf cidTab 129 = 121 from by kernel_rfl]; exact Tryz.func121
theorem at_134 : Tryz.prog.funcs[fidOf cidTab 134]? = some Tryz.f55 := by rw [show fidOf cidTab 134 = 55 from by kernel_rfl]; exact Tryz.func55
theorem at_135 : Tryz.prog.funcs[fidOf cidTab 135]? = some Tryz.f56 := by rw [show fidOf cidTab 135 = 56 from by kernel_rfl]; exact Tryz.func56
theorem at_136 : Tryz.prog.funcs[fidOf cidTab 136]? = some Tryz.f92 := by rw [show fidOf cidTab 136 = 92 from by kernel_rfl]; exact Tryz.func92
theorem at_137 : Tryz.prog.funcs[fidOf cidTab 137]? = some Tryz.f104 := by rw [show fidOf cidTab 137 = 104 from by kernel_rfl]; exact Tryz.func104
theorem at_138 : Tryz.prog.funcs[fidOf cidTab 138]? = some Tryz.f76 := by rw [show fidOf cidTab 138 = 76 from by kernel_rfl]; exact Tryz.func76
theorem at_139 : Tryz.prog.funcs[fidOf cidTab 139]? = some Tryz.f63 := by rw [show fidOf cidTab 139 = 63 from by kernel_rfl]; exact Tryz.func63
theorem at_140 : Tryz.prog.funcs[fidOf cidTab 140]? = some Tryz.f125 := by rw [show fidOf cidTab 140 = 125 from by kernel_rfl]; exact Tryz.func125
theorem at_141 : Tryz.prog.funcs[fidOf cidTab 141]? = some Tryz.f59 := by rw [show fidOf cidTab 141 = 59 from by kernel_rfl]; exact Tryz.func59
theorem at_142 : Tryz.prog.funcs[fidOf cidTab 142]? = some Tryz.f60 := by rw [show fidOf cidTab 142 = 60 from by kernel_rfl]; exact Tryz.func60
theorem at_143 : Tryz.prog.funcs[fidOf cidTab 143]? = some Tryz.f61 := by rw [show fidOf cidTab 143 = 61 from by kernel_rfl]; exact Tryz.func61
theorem at_144 : Tryz.prog.funcs[fidOf cidTab 144]? = some Tryz.f94 := by rw [show fidOf cidTab 144 = 94 from by kernel_rfl]; exact Tryz.func94
theorem at_145 : Tryz.prog.funcs[fidOf cidTab 145]? = some Tryz.f16 := by rw [show fidOf cidTab 145 = 16 from by kernel_rfl]; exact Tryz.func16
theorem at_146 : Tryz.prog.funcs[fidOf cidTab 146]? = some Tryz.f62 := by rw [show fidOf cidTab 146 = 62 from by kernel_rfl]; exact Tryz.func62
theorem at_147 : Tryz.prog.funcs[fidOf cidTab 147]? = some Tryz.f64 := by rw [show fidOf cidTab 147 = 64 from by kernel_rfl]; exact Tryz.func64
theorem at_148 : Tryz.prog.funcs[fidOf cidTab 148]? = some Tryz.f37 := by rw [show fidOf cidTab 148 = 37 from by kernel_rfl]; exact Tryz.func37
theorem at_149 : Tryz.prog.funcs[fidOf cidTab 149]? = some Tryz.f38 := by rw [show fidOf cidTab 149 = 38 from by kernel_rfl]; exact Tryz.func38
theorem at_150 : Tryz.prog.funcs[fidOf cidTab 150]? = some Tryz.f39 := by rw [show fidOf cidTab 150 = 39 from by kernel_rfl]; exact Tryz.func39
theorem at_151 : Tryz.prog.funcs[fidOf cidTab 151]? = some Tryz.f54 := by rw [show fidOf cidTab 151 = 54 from by kernel_rfl]; exact Tryz.func54
theorem at_152 : Tryz.prog.funcs[fidOf cidTab 152]? = some Tryz.f27 := by rw [show fidOf cidTab 152 = 27 from by kernel_rfl]; exact Tryz.func27
theorem at_153 : Tryz.prog.funcs[fidOf cidTab 153]? = some Tryz.f88 := by rw [show fidOf cidTab 153 = 88 from by kernel_rfl]; exact Tryz.func88
theorem at_154 : Tryz.prog.funcs[fidOf cidTab 154]? = some Tryz.f122 := by rw [show fidOf cidTab 154 = 122 from by kernel_rfl]; exact Tryz.func122
theorem at_155 : Tryz.prog.funcs[fidOf cidTab 155]? = some Tryz.f87 := by rw [show fidOf cidTab 155 = 87 from by kernel_rfl]; exact Tryz.func87
theorem at_156 : Tryz.prog.funcs[fidOf cidTab 156]? = some Tryz.f89 := by rw [show fidOf cidTab 156 = 89 from by kernel_rfl]; exact Tryz.func89
theorem at_157 : Tryz.prog.funcs[fidOf cidTab 157]? = some Tryz.f90 := by rw [show fidOf cidTab 157 = 90 from by kernel_rfl]; exact Tryz.func90
theorem at_158 : Tryz.prog.funcs[fidOf cidTab 158]? = some Tryz.f91 := by rw [show fidOf cidTab 158 = 91 from by kernel_rfl]; exact Tryz.func91
theorem at_159 : Tryz.prog.funcs[fidOf cidTab 159]? = some Tryz.f107 := by rw [show fidOf cidTab 159 = 107 from by kernel_rfl]; exact Tryz.func107
theorem at_160 : Tryz.prog.funcs[fidOf cidTab 160]? = some Tryz.f129 := by rw [show fidOf cidTab 160 = 129 from by kernel_rfl]; exact Tryz.func129
theorem at_161 : Tryz.prog.funcs[fidOf cidTab 161]? = some Tryz.f109 := by rw [show fidOf cidTab 161 = 109 from by kernel_rfl]; exact Tryz.func109
theorem at_162 : Tryz.prog.funcs[fidOf cidTab 162]? = some Tryz.f130 := by rw [show fidOf cidTab 162 = 130 from by kernel_rfl]; exact Tryz.func130
theorem at_163 : Tryz.prog.funcs[fidOf cidTab 163]? = some Tryz.f102 := by rw [show fidOf cidTab 163 = 102 from by kernel_rfl]; exact Tryz.func102
theorem at_164 : Tryz.prog.funcs[fidOf cidTab 164]? = some Tryz.f139 := by rw [show fidOf cidTab 164 = 139 from by kernel_rfl]; exact Tryz.func139
theorem at_165 : Tryz.prog.funcs[fidOf cidTab 165]? = some Tryz.f138 := by rw [show fidOf cidTab 165 = 138 from by kernel_rfl]; exact Tryz.func138
theorem at_166 : Tryz.prog.funcs[fidOf cidTab 166]? = some Tryz.f95 := by rw [show fidOf cidTab 166 = 95 from by kernel_rfl]; exact Tryz.func95
theorem at_167 : Tryz.prog.funcs[fidOf cidTab 167]? = some Tryz.f96 := by rw [show fidOf cidTab 167 = 96 from by kernel_rfl]; exact Tryz.func96
theorem at_168 : Tryz.prog.funcs[fidOf cidTab 168]? = some Tryz.f97 := by rw [show fidOf cidTab 168 = 97 from by kernel_rfl]; exact Tryz.func97
theorem at_169 : Tryz.prog.funcs[fidOf cidTab 169]? = some Tryz.f98 := by rw [show fidOf cidTab 169 = 98 from by kernel_rfl]; exact Tryz.func98
theorem at_170 : Tryz.prog.funcs[fidOf cidTab 170]? = some Tryz.f99 := by rw [show fidOf cidTab 170 = 99 from by kernel_rfl]; exact Tryz.func99
theorem at_171 : Tryz.prog.funcs[fidOf cidTab 171]? = some Tryz.f17 := by rw [show fidOf cidTab 171 = 17 from by kernel_rfl]; exact Tryz.func17
theorem at_172 : Tryz.prog.funcs[fidOf cidTab 172]? = some Tryz.f42 := by rw [show fidOf cidTab 172 = 42 from by kernel_rfl]; exact Tryz.func42
theorem at_173 : Tryz.prog.funcs[fidOf cidTab 173]? = some Tryz.f43 := by rw [show fidOf cidTab 173 = 43 from by kernel_rfl]; exact Tryz.func43
theorem at_174 : Tryz.prog.funcs[fidOf cidTab 174]? = some Tryz.f101 := by rw [show fidOf cidTab 174 = 101 from by kernel_rfl]; exact Tryz.func101
theorem at_175 : Tryz.prog.funcs[fidOf cidTab 175]? = some Tryz.f65 := by rw [show fidOf cidTab 175 = 65 from by kernel_rfl]; exact Tryz.func65
theorem at_176 : Tryz.prog.funcs[fidOf cidTab 176]? = some Tryz.f66 := by rw [show fidOf cidTab 176 = 66 from by kernel_rfl]; exact Tryz.func66
theorem at_177 : Tryz.prog.funcs[fidOf cidTab 177]? = some Tryz.f85 := by rw [show fidOf cidTab 177 = 85 from by kernel_rfl]; exact Tryz.func85
theorem at_178 : Tryz.prog.funcs[fidOf cidTab 178]? = some Tryz.f86 := by rw [show fidOf cidTab 178 = 86 from by kernel_rfl]; exact Tryz.func86
theorem at_179 : Tryz.prog.funcs[fidOf cidTab 179]? = some Tryz.f57 := by rw [show fidOf cidTab 179 = 57 from by kernel_rfl]; exact Tryz.func57
theorem at_180 : Tryz.prog.funcs[fidOf cidTab 180]? = some Tryz.f120 := by rw [show fidOf cidTab 180 = 120 from by kernel_rfl]; exact Tryz.func120
theorem at_181 : Tryz.prog.funcs[fidOf cidTab 181]? = some Tryz.f131 := by rw [show fidOf cidTab 181 = 131 from by kernel_rfl]; exact Tryz.func131
theorem at_182 : Tryz.prog.funcs[fidOf cidTab 182]? = some Tryz.f132 := by rw [show fidOf cidTab 182 = 132 from by kernel_rfl]; exact Tryz.func132
theorem at_183 : Tryz.prog.funcs[fidOf cidTab 183]? = some Tryz.f110 := by rw [show fidOf cidTab 183 = 110 from by kernel_rfl]; exact Tryz.func110
theorem at_184 : Tryz.prog.funcs[fidOf cidTab 184]? = some Tryz.f111 := by rw [show fidOf cidTab 184 = 111 from by kernel_rfl]; exact Tryz.func111
theorem at_185 : Tryz.prog.funcs[fidOf cidTab 185]? = some Tryz.f112 := by rw [show fidOf cidTab 185 = 112 from by kernel_rfl]; exact Tryz.func112
theorem at_186 : Tryz.prog.funcs[fidOf cidTab 186]? = some Tryz.f128 := by rw [show fidOf cidTab 186 = 128 from by kernel_rfl]; exact Tryz.func128
theorem at_187 : Tryz.prog.funcs[fidOf cidTab 187]? = some Tryz.f123 := by rw [show fidOf cidTab 187 = 123 from by kernel_rfl]; exact Tryz.func123
theorem at_188 : Tryz.prog.funcs[fidOf cidTab 188]? = some Tryz.f124 := by rw [show fidOf cidTab 188 = 124 from by kernel_rfl]; exact Tryz.func124
theorem at_189 : Tryz.prog.funcs[fidOf cidTab 189]? = some Tryz.f73 := by rw [show fidOf cidTab 189 = 73 from by kernel_rfl]; exact Tryz.func73
theorem at_190 : Tryz.prog.funcs[fidOf cidTab 190]? = some Tryz.f74 := by rw [show fidOf cidTab 190 = 74 from by kernel_rfl]; exact Tryz.func74
theorem at_191 : Tryz.prog.funcs[fidOf cidTab 191]? = some Tryz.f127 := by rw [show fidOf cidTab 191 = 127 from by kernel_rfl]; exact Tryz.func127
theorem at_192 : Tryz.prog.funcs[fidOf cidTab 192]? = some Tryz.f126 := by rw [show fidOf cidTab 192 = 126 from by kernel_rfl]; exact Tryz.func126
theorem at_193 : Tryz.prog.funcs[fidOf cidTab 193]? = some Tryz.f142 := by rw [show fidOf cidTab 193 = 142 from by kernel_rfl]; exact Tryz.func142
theorem at_194 : Tryz.prog.funcs[fidOf cidTab 194]? = some Tryz.f143 := by rw [show fidOf cidTab 194 = 143 from by kernel_rfl]; exact Tryz.func143
theorem at_195 : Tryz.prog.funcs[fidOf cidTab 195]? = some Tryz.f134 := by rw [show fidOf cidTab 195 = 134 from by kernel_rfl]; exact Tryz.func134
theorem at_196 : Tryz.prog.funcs[fidOf cidTab 196]? = some Tryz.f133 := by rw [show fidOf cidTab 196 = 133 from by kernel_rfl]; exact Tryz.func133
theorem at_197 : Tryz.prog.funcs[fidOf cidTab 197]? = some Tryz.f141 := by rw [show fidOf cidTab 197 = 141 from by kernel_rfl]; exact Tryz.func141
theorem at_198 : Tryz.prog.funcs[fidOf cidTab 198]? = some Tryz.f140 := by rw [show fidOf cidTab 198 = 140 from by kernel_rfl]; exact Tryz.func140
theorem at_199 : Tryz.prog.funcs[fidOf cidTab 199]? = some Tryz.f106 := by rw [show fidOf cidTab 199 = 106 from by kernel_rfl]; exact Tryz.func106
theorem at_200 : Tryz.prog.funcs[fidOf cidTab 200]? = some Tryz.f75 := by rw [show fidOf cidTab 200 = 75 from by kernel_rfl]; exact Tryz.func75
theorem at_201 : Tryz.prog.funcs[fidOf cidTab 201]? = some Tryz.f144 := by rw [show fidOf cidTab 201 = 144 from by kernel_rfl]; exact Tryz.func144
theorem at_202 : Tryz.prog.funcs[fidOf cidTab 202]? = some Tryz.f108 := by rw [show fidOf cidTab 202 = 108 from by kernel_rfl]; exact Tryz.func108
theorem at_203 : Tryz.prog.funcs[fidOf cidTab 203]? = some Tryz.f3 := by rw [show fidOf cidTab 203 = 3 from by kernel_rfl]; exact Tryz.func3
theorem at_204 : Tryz.prog.funcs[fidOf cidTab 204]? = some Tryz.f4 := by rw [show fidOf cidTab 204 = 4 from by kernel_rfl]; exact Tryz.func4
theorem at_205 : Tryz.prog.funcs[fidOf cidTab 205]? = some Tryz.f7 := by rw [show fidOf cidTab 205 = 7 from by kernel_rfl]; exact Tryz.func7
theorem at_206 : Tryz.prog.funcs[fidOf cidTab 206]? = some Tryz.f9 := by rw [show fidOf cidTab 206 = 9 from by kernel_rfl]; exact Tryz.func9
theorem at_207 : Tryz.prog.funcs[fidOf cidTab 207]? = some Tryz.f11 := by rw [show fidOf cidTab 207 = 11 from by kernel_rfl]; exact Tryz.func11
theorem at_208 : Tryz.prog.funcs[fidOf cidTab 208]? = some Tryz.f15 := by rw [show fidOf cidTab 208 = 15 from by kernel_rfl]; exact Tryz.func15
theorem at_209 : Tryz.prog.funcs[fidOf cidTab 209]? = some Tryz.f14 := by rw [show fidOf cidTab 209 = 14 from by kernel_rfl]; exact Tryz.func14
theorem at_210 : Tryz.prog.funcs[fidOf cidTab 210]? = some Tryz.f33 := by rw [show fidOf cidTab 210 = 33 from by kernel_rfl]; exact Tryz.func33
theorem at_211 : Tryz.prog.funcs[fidOf cidTab 211]? = some Tryz.f41 := by rw [show fidOf cidTab 211 = 41 from by kernel_rfl]; exact Tryz.func41
theorem at_212 : Tryz.prog.funcs[fidOf cidTab 212]? = some Tryz.f40 := by rw [show fidOf cidTab 212 = 40 from by kernel_rfl]; exact Tryz.func40
theorem at_213 : Tryz.prog.funcs[fidOf cidTab 213]? = some Tryz.f69 := by rw [show fidOf cidTab 213 = 69 from by kernel_rfl]; exact Tryz.func69
theorem at_214 : Tryz.prog.funcs[fidOf cidTab 214]? = some Tryz.f70 := by rw [show fidOf cidTab 214 = 70 from by kernel_rfl]; exact Tryz.func70
theorem at_215 : Tryz.prog.funcs[fidOf cidTab 215]? = some Tryz.f71 := by rw [show fidOf cidTab 215 = 71 from by kernel_rfl]; exact Tryz.func71
theorem at_216 : Tryz.prog.funcs[fidOf cidTab 216]? = some Tryz.f67 := by rw [show fidOf cidTab 216 = 67 from by kernel_rfl]; exact Tryz.func67
theorem at_217 : Tryz.prog.funcs[fidOf cidTab 217]? = some Tryz.f68 := by rw [show fidOf cidTab 217 = 68 from by kernel_rfl]; exact Tryz.func68
theorem at_218 : Tryz.prog.funcs[fidOf cidTab 218]? = some Tryz.f103 := by rw [show fidOf cidTab 218 = 103 from by kernel_rfl]; exact Tryz.func103
theorem at_220 : Tryz.prog.funcs[fidOf cidTab 220]? = some Tryz.f77 := by rw [show fidOf cidTab 220 = 77 from by kernel_rfl]; exact Tryz.func77
theorem at_221 : Tryz.prog.funcs[fidOf cidTab 221]? = some Tryz.f79 := by rw [show fidOf cidTab 221 = 79 from by kernel_rfl]; exact Tryz.func79
theorem at_223 : Tryz.prog.funcs[fidOf cidTab 223]? = some Tryz.f81 := by rw [show fidOf cidTab 223 = 81 from by kernel_rfl]; exact Tryz.func81
theorem at_226 : Tryz.prog.funcs[fidOf cidTab 226]? = some Tryz.f113 := by rw [show fidOf cidTab 226 = 113 from by kernel_rfl]; exact Tryz.func113
theorem at_227 : Tryz.prog.funcs[fidOf cidTab 227]? = some Tryz.f114 := by rw [show fidOf cidTab 227 = 114 from by kernel_rfl]; exact Tryz.func114
theorem at_228 : Tryz.prog.funcs[fidOf cidTab 228]? = some Tryz.f115 := by rw [show fidOf cidTab 228 = 115 from by kernel_rfl]; exact Tryz.func115
theorem at_229 : Tryz.prog.funcs[fidOf cidTab 229]? = some Tryz.f116 := by rw [show fidOf cidTab 229 = 116 from by kernel_rfl]; exact Tryz.func116
theorem at_230 : Tryz.prog.funcs[fidOf cidTab 230]? = some Tryz.f117 := by rw [show fidOf cidTab 230 = 117 from by kernel_rfl]; exact Tryz.func117
theorem at_231 : Tryz.prog.funcs[fidOf cidTab 231]? = some Tryz.f118 := by rw [show fidOf cidTab 231 = 118 from by kernel_rfl]; exact Tryz.func118
theorem at_233 : Tryz.prog.funcs[fidOf cidTab 233]? = some Tryz.f49 := by rw [show fidOf cidTab 233 = 49 from by kernel_rfl]; exact Tryz.func49
theorem at_235 : Tryz.prog.funcs[fidOf cidTab 235]? = some Tryz.f52 := by rw [show fidOf cidTab 235 = 52 from by kernel_rfl]; exact Tryz.func52
theorem at_236 : Tryz.prog.funcs[fidOf cidTab 236]? = some Tryz.f135 := by rw [show fidOf cidTab 236 = 135 from by kernel_rfl]; exact Tryz.func135
theorem at_237 : Tryz.prog.funcs[fidOf cidTab 237]? = some Tryz.f136 := by rw [show fidOf cidTab 237 = 136 from by kernel_rfl]; exact Tryz.func136
theorem at_238 : Tryz.prog.funcs[fidOf cidTab 238]? = some Tryz.f137 := by rw [show fidOf cidTab 238 = 137 from by kernel_rfl]; exact Tryz.func137
theorem at_239 : Tryz.prog.funcs[fidOf cidTab 239]? = some Tryz.f48 := by rw [show fidOf cidTab 239 = 48 from by kernel_rfl]; exact Tryz.func48
theorem at_240 : Tryz.prog.funcs[fidOf cidTab 240]? = some Tryz.f51 := by rw [show fidOf cidTab 240 = 51 from by kernel_rfl]; exact Tryz.func51
theorem at_241 : Tryz.prog.funcs[fidOf cidTab 241]? = some Tryz.f145 := by rw [show fidOf cidTab 241 = 145 from by kernel_rfl]; exact Tryz.func145
theorem at_242 : Tryz.prog.funcs[fidOf cidTab 242]? = some Tryz.f146 := by rw [show fidOf cidTab 242 = 146 from by kernel_rfl]; exact Tryz.func146
theorem at_243 : Tryz.prog.funcs[fidOf cidTab 243]? = some Tryz.f5 := by rw [show fidOf cidTab 243 = 5 from by kernel_rfl]; exact Tryz.func5
theorem at_244 : Tryz.prog.funcs[fidOf cidTab 244]? = some Tryz.f18 := by rw [show fidOf cidTab 244 = 18 from by kernel_rfl]; exact Tryz.func18
theorem at_245 : Tryz.prog.funcs[fidOf cidTab 245]? = some Tryz.f20 := by rw [show fidOf cidTab 245 = 20 from by kernel_rfl]; exact Tryz.func20
theorem at_246 : Tryz.prog.funcs[fidOf cidTab 246]? = some Tryz.f19 := by rw [show fidOf cidTab 246 = 19 from by kernel_rfl]; exact Tryz.func19
theorem at_247 : Tryz.prog.funcs[fidOf cidTab 247]? = some Tryz.f21 := by rw [show fidOf cidTab 247 = 21 from by kernel_rfl]; exact Tryz.func21
theorem at_248 : Tryz.prog.funcs[fidOf cidTab 248]? = some Tryz.f45 := by rw [show fidOf cidTab 248 = 45 from by kernel_rfl]; exact Tryz.func45
theorem at_249 : Tryz.prog.funcs[fidOf cidTab 249]? = some Tryz.f46 := by rw [show fidOf cidTab 249 = 46 from by kernel_rfl]; exact Tryz.func46
theorem at_250 : Tryz.prog.funcs[fidOf cidTab 250]? = some Tryz.f47 := by rw [show fidOf cidTab 250 = 47 from by kernel_rfl]; exact Tryz.func47
theorem at_251 : Tryz.prog.funcs[fidOf cidTab 251]? = some Tryz.f78 := by rw [show fidOf cidTab 251 = 78 from by kernel_rfl]; exact Tryz.func78
theorem at_252 : Tryz.prog.funcs[fidOf cidTab 252]? = some Tryz.f80 := by rw [show fidOf cidTab 252 = 80 from by kernel_rfl]; exact Tryz.func80
theorem at_253 : Tryz.prog.funcs[fidOf cidTab 253]? = some Tryz.f82 := by rw [show fidOf cidTab 253 = 82 from by kernel_rfl]; exact Tryz.func82
theorem at_254 : Tryz.prog.funcs[fidOf cidTab 254]? = some Tryz.f6 := by rw [show fidOf cidTab 254 = 6 from by kernel_rfl]; exact Tryz.func6
theorem at_255 : Tryz.prog.funcs[fidOf cidTab 255]? = some Tryz.f22 := by rw [show fidOf cidTab 255 = 22 from by kernel_rfl]; exact Tryz.func22
theorem at_256 : Tryz.prog.funcs[fidOf cidTab 256]? = some Tryz.f23 := by rw [show fidOf cidTab 256 = 23 from by kernel_rfl]; exact Tryz.func23
theorem at_257 : Tryz.prog.funcs[fidOf cidTab 257]? = some Tryz.f50 := by rw [show fidOf cidTab 257 = 50 from by kernel_rfl]; exact Tryz.func50
theorem at_258 : Tryz.prog.funcs[fidOf cidTab 258]? = some Tryz.f53 := by rw [show fidOf cidTab 258 = 53 from by kernel_rfl]; exact Tryz.func53
theorem strips : ∀ p ∈ tab, ∃ fn, Tryz.prog.funcs[fidOf cidTab p.1]? = some fn ∧ stripF Tryz.prog (cidOf cidTab) fn = some p.2 := by
  simp only [tab, List.forall_mem_cons]
  exact ⟨⟨_, at_60, strip_60⟩, ⟨_, at_65, strip_65⟩, ⟨_, at_67, strip_67⟩, ⟨_, at_96, strip_96⟩, ⟨_, at_106, strip_106⟩, ⟨_, at_107, strip_107⟩, ⟨_, at_108, strip_108⟩, ⟨_, at_109, strip_109⟩, ⟨_, at_110, strip_110⟩, ⟨_, at_111, strip_111⟩, ⟨_, at_115, strip_115⟩, ⟨_, at_116, strip_116⟩, ⟨_, at_117, strip_117⟩, ⟨_, at_118, strip_118⟩, ⟨_, at_119, strip_119⟩, ⟨_, at_120, strip_120⟩, ⟨_, at_121, strip_121⟩, ⟨_, at_122, strip_122⟩, ⟨_, at_123, strip_123⟩, ⟨_, at_124, strip_124⟩, ⟨_, at_125, strip_125⟩, ⟨_, at_126, strip_126⟩, ⟨_, at_127, strip_127⟩, ⟨_, at_128, strip_128⟩, ⟨_, at_129, strip_129⟩, ⟨_, at_134, strip_134⟩, ⟨_, at_135, strip_135⟩, ⟨_, at_136, strip_136⟩, ⟨_, at_137, strip_137⟩, ⟨_, at_138, strip_138⟩, ⟨_, at_139, strip_139⟩, ⟨_, at_140, strip_140⟩, ⟨_, at_141, strip_141⟩, ⟨_, at_142, strip_142⟩, ⟨_, at_143, strip_143⟩, ⟨_, at_144, strip_144⟩, ⟨_, at_145, strip_145⟩, ⟨_, at_146, strip_146⟩, ⟨_, at_147, strip_147⟩, ⟨_, at_148, strip_148⟩, ⟨_, at_149, strip_149⟩, ⟨_, at_150, strip_150⟩, ⟨_, at_151, strip_151⟩, ⟨_, at_152, strip_152⟩, ⟨_, at_153, strip_153⟩, ⟨_, at_154, strip_154⟩, ⟨_, at_155, strip_155⟩, ⟨_, at_156, strip_156⟩, ⟨_, at_157, strip_157⟩, ⟨_, at_158, strip_158⟩, ⟨_, at_159, strip_159⟩, ⟨_, at_160, strip_160⟩, ⟨_, at_161, strip_161⟩, ⟨_, at_162, strip_162⟩, ⟨_, at_163, strip_163⟩, ⟨_, at_164, strip_164⟩, ⟨_, at_165, strip_165⟩, ⟨_, at_166, strip_166⟩, ⟨_, at_167, strip_167⟩, ⟨_, at_168, strip_168⟩, ⟨_, at_169, strip_169⟩, ⟨_, at_170, strip_170⟩, ⟨_, at_171, strip_171⟩, ⟨_, at_172, strip_172⟩, ⟨_, at_173, strip_173⟩, ⟨_, at_174, strip_174⟩, ⟨_, at_175, strip_175⟩, ⟨_, at_176, strip_176⟩, ⟨_, at_177, strip_177⟩, ⟨_, at_178, strip_178⟩, ⟨_, at_179, strip_179⟩, ⟨_, at_180, strip_180⟩, ⟨_, at_181, strip_181⟩, ⟨_, at_182, strip_182⟩, ⟨_, at_183, strip_183⟩, ⟨_, at_184, strip_184⟩, ⟨_, at_185, strip_185⟩, ⟨_, at_186, strip_186⟩, ⟨_, at_187, strip_187⟩, ⟨_, at_188, strip_188⟩, ⟨_, at_189, strip_189⟩, ⟨_, at_190, strip_190⟩, ⟨_, at_191, strip_191⟩, ⟨_, at_192, strip_192⟩, ⟨_, at_193, strip_193⟩, ⟨_, at_194, strip_194⟩, ⟨_, at_195, strip_195⟩, ⟨_, at_196, strip_196⟩, ⟨_, at_197, strip_197⟩, ⟨_, at_198, strip_198⟩, ⟨_, at_199, strip_199⟩, ⟨_, at_200, strip_200⟩, ⟨_, at_201, strip_201⟩, ⟨_, at_202, strip_202⟩, ⟨_, at_203, strip_203⟩, ⟨_, at_204, strip_204⟩, ⟨_, at_205, strip_205⟩, ⟨_, at_206, strip_206⟩, ⟨_, at_207, strip_207⟩, ⟨_, at_208, strip_208⟩, ⟨_, at_209, strip_209⟩, ⟨_, at_210, strip_210⟩, ⟨_, at_211, strip_211⟩, ⟨_, at_212, strip_212⟩, ⟨_, at_213, strip_213⟩, ⟨_, at_214, strip_214⟩, ⟨_, at_215, strip_215⟩, ⟨_, at_216, strip_216⟩, ⟨_, at_217, strip_217⟩, ⟨_, at_218, strip_218⟩, ⟨_, at_220, strip_220⟩, ⟨_, at_221, strip_221⟩, ⟨_, at_223, strip_223⟩, ⟨_, at_226, strip_226⟩, ⟨_, at_227, strip_227⟩, ⟨_, at_228, strip_228⟩, ⟨_, at_229, strip_229⟩, ⟨_, at_230, strip_230⟩, ⟨_, at_231, strip_231⟩, ⟨_, at_233, strip_233⟩, ⟨_, at_235, strip_235⟩, ⟨_, at_236, strip_236⟩, ⟨_, at_237, strip_237⟩, ⟨_, at_238, strip_238⟩, ⟨_, at_239, strip_239⟩, ⟨_, at_240, strip_240⟩, ⟨_, at_241, strip_241⟩, ⟨_, at_242, strip_242⟩, ⟨_, at_243, strip_243⟩, ⟨_, at_244, strip_244⟩, ⟨_, at_245, strip_245⟩, ⟨_, at_246, strip_246⟩, ⟨_, at_247, strip_247⟩, ⟨_, at_248, strip_248⟩, ⟨_, at_249, strip_249⟩, ⟨_, at_250, strip_250⟩, ⟨_, at_251, strip_251⟩, ⟨_, at_252, strip_252⟩, ⟨_, at_253, strip_253⟩, ⟨_, at_254, strip_254⟩, ⟨_, at_255, strip_255⟩, ⟨_, at_256, strip_256⟩, ⟨_, at_257, strip_257⟩, ⟨_, at_258, strip_258⟩, fun _ h => absurd h List.not_mem_nil⟩
theorem cid_ok : ∀ f, fidOf cidTab (cidOf cidTab f) = f := fid_cid (by kernel_rfl)
theorem mix : Tryz.prog.follows .mixedOrders = true := by kernel_rfl
theorem FT_ok : ∀ f F, FT f = some F → ∃ fn, Tryz.prog.funcs[fidOf cidTab f]? = some fn ∧ stripF Tryz.prog (cidOf cidTab) fn = some F := tab_ok strips
theorem orc_ok : ∀ f args s r, orc f = true → ans f args = some r → CallOK Tryz.prog (fidOf cidTab) GT f args [] s r := by
  intro f args s r hf hr
  have key : ∀ sz bytes zero, FT f = some (cloneF sz bytes zero) → zero.length = sz → cloneIds.lookup f = some (sz, bytes) → CallOK Tryz.prog (fidOf cidTab) GT f args [] s r := by
    intro sz bytes zero h1 h2 h3
    obtain ⟨fn, a1, a2⟩ := FT_ok f _ h1
    unfold ans at hr
    rw [h3] at hr
    split at hr
    · rename_i e
      cases e
      split at hr
      · rename_i hc
        simp only [Bool.and_eq_true] at hc
        cases hr
        exact clone_ok cid_ok mix a1 a2 h2 hc.1 hc.2
      · cases hr
    · cases hr
  unfold orc at hf
  have hcase : f = 164 ∨ f = 191 ∨ f = 197 := by
    by_cases e1 : f = 164
    · exact .inl e1
    by_cases e2 : f = 191
    · exact .inr (.inl e2)
    by_cases e3 : f = 197
    · exact .inr (.inr e3)
    have : cloneIds.lookup f = none := by simp [cloneIds, List.lookup, show (f == 164) = false from by simpa using e1, show (f == 191) = false from by simpa using e2, show (f == 197) = false from by simpa using e3]
    rw [this] at hf; cases hf
  rcases hcase with rfl | rfl | rfl
  · exact key 4 64 [.s (.int .i64 0), .s (.int .i64 0), .l 0 [], .l 0 []] rfl rfl rfl
  · exact key 2 32 [.s (.int .i64 0), .l 0 []] rfl rfl rfl
  · exact key 3 24 [.s (.int .i64 0), .s (.int .i64 0), .s (.int .i64 0)] rfl rfl rfl
theorem go_ok (n f : Nat) (args : List V) (bs : List Box) (s : Sup) (r : Res) : go n f args bs s = some r → CallOK Tryz.prog (fidOf cidTab) GT f args bs s r :=
  run2_ok cid_ok mix FT_ok orc_ok n f args bs s r
end Go.VM

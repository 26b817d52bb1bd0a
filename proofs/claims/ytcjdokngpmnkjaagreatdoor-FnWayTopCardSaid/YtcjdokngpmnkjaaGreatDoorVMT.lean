/- The functions of the seat, all of them, are those of the machine. Conditions: none. -/
import Derived.Test.YtcjdokngpmnkjaaGreatDoorVMS
import Derived.Test.YtcjdokngpmnkjaaGreatDoorVM29
import Derived.Test.YtcjdokngpmnkjaaGreatDoorVM31

namespace Go.VM
open Go.Proofs
set_option maxRecDepth 100000
theorem at_60 : Tryz.prog.funcs[fidOf cidTab 60]? = some Tryz.f156 := by rw [show fidOf cidTab 60 = 156 from by kernel_rfl]; exact Tryz.func156
theorem at_65 : Tryz.prog.funcs[fidOf cidTab 65]? = some Tryz.f57 := by rw [show fidOf cidTab 65 = 57 from by kernel_rfl]; exact Tryz.func57
theorem at_67 : Tryz.prog.funcs[fidOf cidTab 67]? = some Tryz.f88 := by rw [show fidOf cidTab 67 = 88 from by kernel_rfl]; exact Tryz.func88
theorem at_96 : Tryz.prog.funcs[fidOf cidTab 96]? = some Tryz.f91 := by rw [show fidOf cidTab 96 = 91 from by kernel_rfl]; exact Tryz.func91
theorem at_106 : Tryz.prog.funcs[fidOf cidTab 106]? = some Tryz.f20 := by rw [show fidOf cidTab 106 = 20 from by kernel_rfl]; exact Tryz.func20
theorem at_107 : Tryz.prog.funcs[fidOf cidTab 107]? = some Tryz.f62 := by rw [show fidOf cidTab 107 = 62 from by kernel_rfl]; exact Tryz.func62
theorem at_108 : Tryz.prog.funcs[fidOf cidTab 108]? = some Tryz.f52 := by rw [show fidOf cidTab 108 = 52 from by kernel_rfl]; exact Tryz.func52
theorem at_115 : Tryz.prog.funcs[fidOf cidTab 115]? = some Tryz.f90 := by rw [show fidOf cidTab 115 = 90 from by kernel_rfl]; exact Tryz.func90
theorem at_116 : Tryz.prog.funcs[fidOf cidTab 116]? = some Tryz.f207 := by rw [show fidOf cidTab 116 = 207 from by kernel_rfl]; exact Tryz.func207
theorem at_117 : Tryz.prog.funcs[fidOf cidTab 117]? = some Tryz.f141 := by rw [show fidOf cidTab 117 = 141 from by kernel_rfl]; exact Tryz.func141
theorem at_118 : Tryz.prog.funcs[fidOf cidTab 118]? = some Tryz.f96 := by rw [show fidOf cidTab 118 = 96 from by kernel_rfl]; exact Tryz.func96
theorem at_119 : Tryz.prog.funcs[fidOf cidTab 119]? = some Tryz.f208 := by rw [show fidOf cidTab 119 = 208 from by kernel_rfl]; exact Tryz.func208
theorem at_120 : Tryz.prog.funcs[fidOf cidTab 120]? = some Tryz.f203 := by rw [show fidOf cidTab 120 = 203 from by kernel_rfl]; exact Tryz.func203
theorem at_121 : Tryz.prog.funcs[fidOf cidTab 121]? = some Tryz.f63 := by rw [show fidOf cidTab 121 = 63 from by kernel_rfl]; exact Tryz.func63
theorem at_122 : Tryz.prog.funcs[fidOf cidTab 122]? = some Tryz.f131 := by rw [show fidOf cidTab 122 = 131 from by kernel_rfl]; exact Tryz.func131
theorem at_123 : Tryz.prog.funcs[fidOf cidTab 123]? = some Tryz.f59 := by rw [show fidOf cidTab 123 = 59 from by kernel_rfl]; exact Tryz.func59
theorem at_124 : Tryz.prog.funcs[fidOf cidTab 124]? = some Tryz.f104 := by rw [show fidOf cidTab 124 = 104 from by kernel_rfl]; exact Tryz.func104
theorem at_125 : Tryz.prog.funcs[fidOf cidTab 125]? = some Tryz.f83 := by rw [show fidOf cidTab 125 = 83 from by kernel_rfl]; exact Tryz.func83
theorem at_128 : Tryz.prog.funcs[fidOf cidTab 128]? = some Tryz.f56 := by rw [show fidOf cidTab 128 = 56 from by kernel_rfl]; exact Tryz.func56
theorem at_129 : Tryz.prog.funcs[fidOf cidTab 129]? = some Tryz.f189 := by rw [show fidOf cidTab 129 = 189 from by kernel_rfl]; exact Tryz.func189
theorem at_134 : Tryz.prog.funcs[fidOf cidTab 134]? = some Tryz.f92 := by rw [show fidOf cidTab 134 = 92 from by kernel_rfl]; exact Tryz.func92
theorem at_135 : Tryz.prog.funcs[fidOf cidTab 135]? = some Tryz.f142 := by rw [show fidOf cidTab 135 = 142 from by kernel_rfl]; exact Tryz.func142
theorem at_136 : Tryz.prog.funcs[fidOf cidTab 136]? = some Tryz.f154 := by rw [show fidOf cidTab 136 = 154 from by kernel_rfl]; exact Tryz.func154
theorem at_137 : Tryz.prog.funcs[fidOf cidTab 137]? = some Tryz.f157 := by rw [show fidOf cidTab 137 = 157 from by kernel_rfl]; exact Tryz.func157
theorem at_138 : Tryz.prog.funcs[fidOf cidTab 138]? = some Tryz.f159 := by rw [show fidOf cidTab 138 = 159 from by kernel_rfl]; exact Tryz.func159
theorem at_139 : Tryz.prog.funcs[fidOf cidTab 139]? = some Tryz.f97 := by rw [show fidOf cidTab 139 = 97 from by kernel_rfl]; exact Tryz.func97
theorem at_140 : Tryz.prog.funcs[fidOf cidTab 140]? = some Tryz.f219 := by rw [show fidOf cidTab 140 = 219 from by kernel_rfl]; exact Tryz.func219
theorem at_141 : Tryz.prog.funcs[fidOf cidTab 141]? = some Tryz.f124 := by rw [show fidOf cidTab 141 = 124 from by kernel_rfl]; exact Tryz.func124
theorem at_142 : Tryz.prog.funcs[fidOf cidTab 142]? = some Tryz.f132 := by rw [show fidOf cidTab 142 = 132 from by kernel_rfl]; exact Tryz.func132
theorem at_143 : Tryz.prog.funcs[fidOf cidTab 143]? = some Tryz.f133 := by rw [show fidOf cidTab 143 = 133 from by kernel_rfl]; exact Tryz.func133
theorem at_144 : Tryz.prog.funcs[fidOf cidTab 144]? = some Tryz.f101 := by rw [show fidOf cidTab 144 = 101 from by kernel_rfl]; exact Tryz.func101
theorem at_145 : Tryz.prog.funcs[fidOf cidTab 145]? = some Tryz.f127 := by rw [show fidOf cidTab 145 = 127 from by kernel_rfl]; exact Tryz.func127
theorem at_146 : Tryz.prog.funcs[fidOf cidTab 146]? = some Tryz.f166 := by rw [show fidOf cidTab 146 = 166 from by kernel_rfl]; exact Tryz.func166
theorem at_147 : Tryz.prog.funcs[fidOf cidTab 147]? = some Tryz.f148 := by rw [show fidOf cidTab 147 = 148 from by kernel_rfl]; exact Tryz.func148
theorem at_150 : Tryz.prog.funcs[fidOf cidTab 150]? = some Tryz.f66 := by rw [show fidOf cidTab 150 = 66 from by kernel_rfl]; exact Tryz.func66
theorem at_151 : Tryz.prog.funcs[fidOf cidTab 151]? = some Tryz.f121 := by rw [show fidOf cidTab 151 = 121 from by kernel_rfl]; exact Tryz.func121
theorem at_152 : Tryz.prog.funcs[fidOf cidTab 152]? = some Tryz.f122 := by rw [show fidOf cidTab 152 = 122 from by kernel_rfl]; exact Tryz.func122
theorem at_153 : Tryz.prog.funcs[fidOf cidTab 153]? = some Tryz.f151 := by rw [show fidOf cidTab 153 = 151 from by kernel_rfl]; exact Tryz.func151
theorem at_154 : Tryz.prog.funcs[fidOf cidTab 154]? = some Tryz.f190 := by rw [show fidOf cidTab 154 = 190 from by kernel_rfl]; exact Tryz.func190
theorem at_155 : Tryz.prog.funcs[fidOf cidTab 155]? = some Tryz.f150 := by rw [show fidOf cidTab 155 = 150 from by kernel_rfl]; exact Tryz.func150
theorem at_156 : Tryz.prog.funcs[fidOf cidTab 156]? = some Tryz.f152 := by rw [show fidOf cidTab 156 = 152 from by kernel_rfl]; exact Tryz.func152
theorem at_157 : Tryz.prog.funcs[fidOf cidTab 157]? = some Tryz.f153 := by rw [show fidOf cidTab 157 = 153 from by kernel_rfl]; exact Tryz.func153
theorem at_158 : Tryz.prog.funcs[fidOf cidTab 158]? = some Tryz.f182 := by rw [show fidOf cidTab 158 = 182 from by kernel_rfl]; exact Tryz.func182
theorem at_159 : Tryz.prog.funcs[fidOf cidTab 159]? = some Tryz.f191 := by rw [show fidOf cidTab 159 = 191 from by kernel_rfl]; exact Tryz.func191
theorem at_160 : Tryz.prog.funcs[fidOf cidTab 160]? = some Tryz.f192 := by rw [show fidOf cidTab 160 = 192 from by kernel_rfl]; exact Tryz.func192
theorem at_161 : Tryz.prog.funcs[fidOf cidTab 161]? = some Tryz.f193 := by rw [show fidOf cidTab 161 = 193 from by kernel_rfl]; exact Tryz.func193
theorem at_162 : Tryz.prog.funcs[fidOf cidTab 162]? = some Tryz.f194 := by rw [show fidOf cidTab 162 = 194 from by kernel_rfl]; exact Tryz.func194
theorem at_163 : Tryz.prog.funcs[fidOf cidTab 163]? = some Tryz.f161 := by rw [show fidOf cidTab 163 = 161 from by kernel_rfl]; exact Tryz.func161
theorem at_164 : Tryz.prog.funcs[fidOf cidTab 164]? = some Tryz.f228 := by rw [show fidOf cidTab 164 = 228 from by kernel_rfl]; exact Tryz.func228
theorem at_165 : Tryz.prog.funcs[fidOf cidTab 165]? = some Tryz.f227 := by rw [show fidOf cidTab 165 = 227 from by kernel_rfl]; exact Tryz.func227
theorem at_166 : Tryz.prog.funcs[fidOf cidTab 166]? = some Tryz.f162 := by rw [show fidOf cidTab 166 = 162 from by kernel_rfl]; exact Tryz.func162
theorem at_167 : Tryz.prog.funcs[fidOf cidTab 167]? = some Tryz.f183 := by rw [show fidOf cidTab 167 = 183 from by kernel_rfl]; exact Tryz.func183
theorem at_168 : Tryz.prog.funcs[fidOf cidTab 168]? = some Tryz.f184 := by rw [show fidOf cidTab 168 = 184 from by kernel_rfl]; exact Tryz.func184
theorem at_169 : Tryz.prog.funcs[fidOf cidTab 169]? = some Tryz.f185 := by rw [show fidOf cidTab 169 = 185 from by kernel_rfl]; exact Tryz.func185
theorem at_170 : Tryz.prog.funcs[fidOf cidTab 170]? = some Tryz.f186 := by rw [show fidOf cidTab 170 = 186 from by kernel_rfl]; exact Tryz.func186
theorem at_171 : Tryz.prog.funcs[fidOf cidTab 171]? = some Tryz.f41 := by rw [show fidOf cidTab 171 = 41 from by kernel_rfl]; exact Tryz.func41
theorem at_172 : Tryz.prog.funcs[fidOf cidTab 172]? = some Tryz.f180 := by rw [show fidOf cidTab 172 = 180 from by kernel_rfl]; exact Tryz.func180
theorem at_173 : Tryz.prog.funcs[fidOf cidTab 173]? = some Tryz.f103 := by rw [show fidOf cidTab 173 = 103 from by kernel_rfl]; exact Tryz.func103
theorem at_174 : Tryz.prog.funcs[fidOf cidTab 174]? = some Tryz.f204 := by rw [show fidOf cidTab 174 = 204 from by kernel_rfl]; exact Tryz.func204
theorem at_176 : Tryz.prog.funcs[fidOf cidTab 176]? = some Tryz.f134 := by rw [show fidOf cidTab 176 = 134 from by kernel_rfl]; exact Tryz.func134
theorem at_177 : Tryz.prog.funcs[fidOf cidTab 177]? = some Tryz.f143 := by rw [show fidOf cidTab 177 = 143 from by kernel_rfl]; exact Tryz.func143
theorem at_178 : Tryz.prog.funcs[fidOf cidTab 178]? = some Tryz.f177 := by rw [show fidOf cidTab 178 = 177 from by kernel_rfl]; exact Tryz.func177
theorem at_179 : Tryz.prog.funcs[fidOf cidTab 179]? = some Tryz.f178 := by rw [show fidOf cidTab 179 = 178 from by kernel_rfl]; exact Tryz.func178
theorem at_180 : Tryz.prog.funcs[fidOf cidTab 180]? = some Tryz.f188 := by rw [show fidOf cidTab 180 = 188 from by kernel_rfl]; exact Tryz.func188
theorem at_181 : Tryz.prog.funcs[fidOf cidTab 181]? = some Tryz.f213 := by rw [show fidOf cidTab 181 = 213 from by kernel_rfl]; exact Tryz.func213
theorem at_182 : Tryz.prog.funcs[fidOf cidTab 182]? = some Tryz.f214 := by rw [show fidOf cidTab 182 = 214 from by kernel_rfl]; exact Tryz.func214
theorem at_183 : Tryz.prog.funcs[fidOf cidTab 183]? = some Tryz.f196 := by rw [show fidOf cidTab 183 = 196 from by kernel_rfl]; exact Tryz.func196
theorem at_184 : Tryz.prog.funcs[fidOf cidTab 184]? = some Tryz.f197 := by rw [show fidOf cidTab 184 = 197 from by kernel_rfl]; exact Tryz.func197
theorem at_185 : Tryz.prog.funcs[fidOf cidTab 185]? = some Tryz.f198 := by rw [show fidOf cidTab 185 = 198 from by kernel_rfl]; exact Tryz.func198
theorem at_186 : Tryz.prog.funcs[fidOf cidTab 186]? = some Tryz.f199 := by rw [show fidOf cidTab 186 = 199 from by kernel_rfl]; exact Tryz.func199
theorem at_187 : Tryz.prog.funcs[fidOf cidTab 187]? = some Tryz.f200 := by rw [show fidOf cidTab 187 = 200 from by kernel_rfl]; exact Tryz.func200
theorem at_188 : Tryz.prog.funcs[fidOf cidTab 188]? = some Tryz.f201 := by rw [show fidOf cidTab 188 = 201 from by kernel_rfl]; exact Tryz.func201
theorem at_189 : Tryz.prog.funcs[fidOf cidTab 189]? = some Tryz.f209 := by rw [show fidOf cidTab 189 = 209 from by kernel_rfl]; exact Tryz.func209
theorem at_190 : Tryz.prog.funcs[fidOf cidTab 190]? = some Tryz.f210 := by rw [show fidOf cidTab 190 = 210 from by kernel_rfl]; exact Tryz.func210
theorem at_191 : Tryz.prog.funcs[fidOf cidTab 191]? = some Tryz.f221 := by rw [show fidOf cidTab 191 = 221 from by kernel_rfl]; exact Tryz.func221
theorem at_192 : Tryz.prog.funcs[fidOf cidTab 192]? = some Tryz.f220 := by rw [show fidOf cidTab 192 = 220 from by kernel_rfl]; exact Tryz.func220
theorem at_193 : Tryz.prog.funcs[fidOf cidTab 193]? = some Tryz.f224 := by rw [show fidOf cidTab 193 = 224 from by kernel_rfl]; exact Tryz.func224
theorem at_194 : Tryz.prog.funcs[fidOf cidTab 194]? = some Tryz.f225 := by rw [show fidOf cidTab 194 = 225 from by kernel_rfl]; exact Tryz.func225
theorem at_195 : Tryz.prog.funcs[fidOf cidTab 195]? = some Tryz.f216 := by rw [show fidOf cidTab 195 = 216 from by kernel_rfl]; exact Tryz.func216
theorem at_196 : Tryz.prog.funcs[fidOf cidTab 196]? = some Tryz.f215 := by rw [show fidOf cidTab 196 = 215 from by kernel_rfl]; exact Tryz.func215
theorem at_197 : Tryz.prog.funcs[fidOf cidTab 197]? = some Tryz.f218 := by rw [show fidOf cidTab 197 = 218 from by kernel_rfl]; exact Tryz.func218
theorem at_198 : Tryz.prog.funcs[fidOf cidTab 198]? = some Tryz.f217 := by rw [show fidOf cidTab 198 = 217 from by kernel_rfl]; exact Tryz.func217
theorem at_199 : Tryz.prog.funcs[fidOf cidTab 199]? = some Tryz.f223 := by rw [show fidOf cidTab 199 = 223 from by kernel_rfl]; exact Tryz.func223
theorem at_200 : Tryz.prog.funcs[fidOf cidTab 200]? = some Tryz.f158 := by rw [show fidOf cidTab 200 = 158 from by kernel_rfl]; exact Tryz.func158
theorem at_201 : Tryz.prog.funcs[fidOf cidTab 201]? = some Tryz.f226 := by rw [show fidOf cidTab 201 = 226 from by kernel_rfl]; exact Tryz.func226
theorem at_202 : Tryz.prog.funcs[fidOf cidTab 202]? = some Tryz.f195 := by rw [show fidOf cidTab 202 = 195 from by kernel_rfl]; exact Tryz.func195
theorem at_208 : Tryz.prog.funcs[fidOf cidTab 208]? = some Tryz.f18 := by rw [show fidOf cidTab 208 = 18 from by kernel_rfl]; exact Tryz.func18
theorem at_211 : Tryz.prog.funcs[fidOf cidTab 211]? = some Tryz.f58 := by rw [show fidOf cidTab 211 = 58 from by kernel_rfl]; exact Tryz.func58
theorem at_213 : Tryz.prog.funcs[fidOf cidTab 213]? = some Tryz.f123 := by rw [show fidOf cidTab 213 = 123 from by kernel_rfl]; exact Tryz.func123
theorem at_214 : Tryz.prog.funcs[fidOf cidTab 214]? = some Tryz.f125 := by rw [show fidOf cidTab 214 = 125 from by kernel_rfl]; exact Tryz.func125
theorem at_215 : Tryz.prog.funcs[fidOf cidTab 215]? = some Tryz.f126 := by rw [show fidOf cidTab 215 = 126 from by kernel_rfl]; exact Tryz.func126
theorem at_218 : Tryz.prog.funcs[fidOf cidTab 218]? = some Tryz.f179 := by rw [show fidOf cidTab 218 = 179 from by kernel_rfl]; exact Tryz.func179
theorem at_264 : Tryz.prog.funcs[fidOf cidTab 264]? = some Tryz.f8 := by rw [show fidOf cidTab 264 = 8 from by kernel_rfl]; exact Tryz.func8
theorem at_268 : Tryz.prog.funcs[fidOf cidTab 268]? = some Tryz.f13 := by rw [show fidOf cidTab 268 = 13 from by kernel_rfl]; exact Tryz.func13
theorem at_269 : Tryz.prog.funcs[fidOf cidTab 269]? = some Tryz.f15 := by rw [show fidOf cidTab 269 = 15 from by kernel_rfl]; exact Tryz.func15
theorem at_271 : Tryz.prog.funcs[fidOf cidTab 271]? = some Tryz.f19 := by rw [show fidOf cidTab 271 = 19 from by kernel_rfl]; exact Tryz.func19
theorem at_272 : Tryz.prog.funcs[fidOf cidTab 272]? = some Tryz.f21 := by rw [show fidOf cidTab 272 = 21 from by kernel_rfl]; exact Tryz.func21
theorem at_273 : Tryz.prog.funcs[fidOf cidTab 273]? = some Tryz.f22 := by rw [show fidOf cidTab 273 = 22 from by kernel_rfl]; exact Tryz.func22
theorem at_274 : Tryz.prog.funcs[fidOf cidTab 274]? = some Tryz.f23 := by rw [show fidOf cidTab 274 = 23 from by kernel_rfl]; exact Tryz.func23
theorem at_278 : Tryz.prog.funcs[fidOf cidTab 278]? = some Tryz.f28 := by rw [show fidOf cidTab 278 = 28 from by kernel_rfl]; exact Tryz.func28
theorem at_280 : Tryz.prog.funcs[fidOf cidTab 280]? = some Tryz.f30 := by rw [show fidOf cidTab 280 = 30 from by kernel_rfl]; exact Tryz.func30
theorem at_281 : Tryz.prog.funcs[fidOf cidTab 281]? = some Tryz.f31 := by rw [show fidOf cidTab 281 = 31 from by kernel_rfl]; exact Tryz.func31
theorem at_282 : Tryz.prog.funcs[fidOf cidTab 282]? = some Tryz.f32 := by rw [show fidOf cidTab 282 = 32 from by kernel_rfl]; exact Tryz.func32
theorem at_283 : Tryz.prog.funcs[fidOf cidTab 283]? = some Tryz.f33 := by rw [show fidOf cidTab 283 = 33 from by kernel_rfl]; exact Tryz.func33
theorem at_284 : Tryz.prog.funcs[fidOf cidTab 284]? = some Tryz.f34 := by rw [show fidOf cidTab 284 = 34 from by kernel_rfl]; exact Tryz.func34
theorem at_292 : Tryz.prog.funcs[fidOf cidTab 292]? = some Tryz.f49 := by rw [show fidOf cidTab 292 = 49 from by kernel_rfl]; exact Tryz.func49
theorem at_293 : Tryz.prog.funcs[fidOf cidTab 293]? = some Tryz.f50 := by rw [show fidOf cidTab 293 = 50 from by kernel_rfl]; exact Tryz.func50
theorem at_294 : Tryz.prog.funcs[fidOf cidTab 294]? = some Tryz.f48 := by rw [show fidOf cidTab 294 = 48 from by kernel_rfl]; exact Tryz.func48
theorem at_295 : Tryz.prog.funcs[fidOf cidTab 295]? = some Tryz.f53 := by rw [show fidOf cidTab 295 = 53 from by kernel_rfl]; exact Tryz.func53
theorem at_296 : Tryz.prog.funcs[fidOf cidTab 296]? = some Tryz.f54 := by rw [show fidOf cidTab 296 = 54 from by kernel_rfl]; exact Tryz.func54
theorem at_297 : Tryz.prog.funcs[fidOf cidTab 297]? = some Tryz.f61 := by rw [show fidOf cidTab 297 = 61 from by kernel_rfl]; exact Tryz.func61
theorem at_298 : Tryz.prog.funcs[fidOf cidTab 298]? = some Tryz.f60 := by rw [show fidOf cidTab 298 = 60 from by kernel_rfl]; exact Tryz.func60
theorem at_299 : Tryz.prog.funcs[fidOf cidTab 299]? = some Tryz.f64 := by rw [show fidOf cidTab 299 = 64 from by kernel_rfl]; exact Tryz.func64
theorem at_300 : Tryz.prog.funcs[fidOf cidTab 300]? = some Tryz.f65 := by rw [show fidOf cidTab 300 = 65 from by kernel_rfl]; exact Tryz.func65
theorem at_301 : Tryz.prog.funcs[fidOf cidTab 301]? = some Tryz.f67 := by rw [show fidOf cidTab 301 = 67 from by kernel_rfl]; exact Tryz.func67
theorem at_302 : Tryz.prog.funcs[fidOf cidTab 302]? = some Tryz.f68 := by rw [show fidOf cidTab 302 = 68 from by kernel_rfl]; exact Tryz.func68
theorem at_304 : Tryz.prog.funcs[fidOf cidTab 304]? = some Tryz.f74 := by rw [show fidOf cidTab 304 = 74 from by kernel_rfl]; exact Tryz.func74
theorem at_307 : Tryz.prog.funcs[fidOf cidTab 307]? = some Tryz.f77 := by rw [show fidOf cidTab 307 = 77 from by kernel_rfl]; exact Tryz.func77
theorem at_308 : Tryz.prog.funcs[fidOf cidTab 308]? = some Tryz.f78 := by rw [show fidOf cidTab 308 = 78 from by kernel_rfl]; exact Tryz.func78
theorem at_309 : Tryz.prog.funcs[fidOf cidTab 309]? = some Tryz.f79 := by rw [show fidOf cidTab 309 = 79 from by kernel_rfl]; exact Tryz.func79
theorem at_310 : Tryz.prog.funcs[fidOf cidTab 310]? = some Tryz.f80 := by rw [show fidOf cidTab 310 = 80 from by kernel_rfl]; exact Tryz.func80
theorem at_311 : Tryz.prog.funcs[fidOf cidTab 311]? = some Tryz.f81 := by rw [show fidOf cidTab 311 = 81 from by kernel_rfl]; exact Tryz.func81
theorem at_315 : Tryz.prog.funcs[fidOf cidTab 315]? = some Tryz.f94 := by rw [show fidOf cidTab 315 = 94 from by kernel_rfl]; exact Tryz.func94
theorem at_325 : Tryz.prog.funcs[fidOf cidTab 325]? = some Tryz.f114 := by rw [show fidOf cidTab 325 = 114 from by kernel_rfl]; exact Tryz.func114
theorem at_326 : Tryz.prog.funcs[fidOf cidTab 326]? = some Tryz.f117 := by rw [show fidOf cidTab 326 = 117 from by kernel_rfl]; exact Tryz.func117
theorem at_327 : Tryz.prog.funcs[fidOf cidTab 327]? = some Tryz.f118 := by rw [show fidOf cidTab 327 = 118 from by kernel_rfl]; exact Tryz.func118
theorem at_328 : Tryz.prog.funcs[fidOf cidTab 328]? = some Tryz.f128 := by rw [show fidOf cidTab 328 = 128 from by kernel_rfl]; exact Tryz.func128
theorem at_329 : Tryz.prog.funcs[fidOf cidTab 329]? = some Tryz.f129 := by rw [show fidOf cidTab 329 = 129 from by kernel_rfl]; exact Tryz.func129
theorem at_330 : Tryz.prog.funcs[fidOf cidTab 330]? = some Tryz.f130 := by rw [show fidOf cidTab 330 = 130 from by kernel_rfl]; exact Tryz.func130
theorem at_331 : Tryz.prog.funcs[fidOf cidTab 331]? = some Tryz.f135 := by rw [show fidOf cidTab 331 = 135 from by kernel_rfl]; exact Tryz.func135
theorem at_332 : Tryz.prog.funcs[fidOf cidTab 332]? = some Tryz.f136 := by rw [show fidOf cidTab 332 = 136 from by kernel_rfl]; exact Tryz.func136
theorem at_333 : Tryz.prog.funcs[fidOf cidTab 333]? = some Tryz.f137 := by rw [show fidOf cidTab 333 = 137 from by kernel_rfl]; exact Tryz.func137
theorem at_334 : Tryz.prog.funcs[fidOf cidTab 334]? = some Tryz.f139 := by rw [show fidOf cidTab 334 = 139 from by kernel_rfl]; exact Tryz.func139
theorem at_336 : Tryz.prog.funcs[fidOf cidTab 336]? = some Tryz.f144 := by rw [show fidOf cidTab 336 = 144 from by kernel_rfl]; exact Tryz.func144
theorem at_348 : Tryz.prog.funcs[fidOf cidTab 348]? = some Tryz.f181 := by rw [show fidOf cidTab 348 = 181 from by kernel_rfl]; exact Tryz.func181
theorem at_350 : Tryz.prog.funcs[fidOf cidTab 350]? = some Tryz.f211 := by rw [show fidOf cidTab 350 = 211 from by kernel_rfl]; exact Tryz.func211
theorem strips : ∀ p ∈ tab, ∃ fn, Tryz.prog.funcs[fidOf cidTab p.1]? = some fn ∧ stripF Tryz.prog (cidOf cidTab) fn = some p.2 := by
  simp only [tab, List.forall_mem_cons]
  exact ⟨⟨_, at_60, strip_60⟩, ⟨_, at_65, strip_65⟩, ⟨_, at_67, strip_67⟩, ⟨_, at_96, strip_96⟩, ⟨_, at_106, strip_106⟩, ⟨_, at_107, strip_107⟩, ⟨_, at_108, strip_108⟩, ⟨_, at_115, strip_115⟩, ⟨_, at_116, strip_116⟩, ⟨_, at_117, strip_117⟩, ⟨_, at_118, strip_118⟩, ⟨_, at_119, strip_119⟩, ⟨_, at_120, strip_120⟩, ⟨_, at_121, strip_121⟩, ⟨_, at_122, strip_122⟩, ⟨_, at_123, strip_123⟩, ⟨_, at_124, strip_124⟩, ⟨_, at_125, strip_125⟩, ⟨_, at_128, strip_128⟩, ⟨_, at_129, strip_129⟩, ⟨_, at_134, strip_134⟩, ⟨_, at_135, strip_135⟩, ⟨_, at_136, strip_136⟩, ⟨_, at_137, strip_137⟩, ⟨_, at_138, strip_138⟩, ⟨_, at_139, strip_139⟩, ⟨_, at_140, strip_140⟩, ⟨_, at_141, strip_141⟩, ⟨_, at_142, strip_142⟩, ⟨_, at_143, strip_143⟩, ⟨_, at_144, strip_144⟩, ⟨_, at_145, strip_145⟩, ⟨_, at_146, strip_146⟩, ⟨_, at_147, strip_147⟩, ⟨_, at_150, strip_150⟩, ⟨_, at_151, strip_151⟩, ⟨_, at_152, strip_152⟩, ⟨_, at_153, strip_153⟩, ⟨_, at_154, strip_154⟩, ⟨_, at_155, strip_155⟩, ⟨_, at_156, strip_156⟩, ⟨_, at_157, strip_157⟩, ⟨_, at_158, strip_158⟩, ⟨_, at_159, strip_159⟩, ⟨_, at_160, strip_160⟩, ⟨_, at_161, strip_161⟩, ⟨_, at_162, strip_162⟩, ⟨_, at_163, strip_163⟩, ⟨_, at_164, strip_164⟩, ⟨_, at_165, strip_165⟩, ⟨_, at_166, strip_166⟩, ⟨_, at_167, strip_167⟩, ⟨_, at_168, strip_168⟩, ⟨_, at_169, strip_169⟩, ⟨_, at_170, strip_170⟩, ⟨_, at_171, strip_171⟩, ⟨_, at_172, strip_172⟩, ⟨_, at_173, strip_173⟩, ⟨_, at_174, strip_174⟩, ⟨_, at_176, strip_176⟩, ⟨_, at_177, strip_177⟩, ⟨_, at_178, strip_178⟩, ⟨_, at_179, strip_179⟩, ⟨_, at_180, strip_180⟩, ⟨_, at_181, strip_181⟩, ⟨_, at_182, strip_182⟩, ⟨_, at_183, strip_183⟩, ⟨_, at_184, strip_184⟩, ⟨_, at_185, strip_185⟩, ⟨_, at_186, strip_186⟩, ⟨_, at_187, strip_187⟩, ⟨_, at_188, strip_188⟩, ⟨_, at_189, strip_189⟩, ⟨_, at_190, strip_190⟩, ⟨_, at_191, strip_191⟩, ⟨_, at_192, strip_192⟩, ⟨_, at_193, strip_193⟩, ⟨_, at_194, strip_194⟩, ⟨_, at_195, strip_195⟩, ⟨_, at_196, strip_196⟩, ⟨_, at_197, strip_197⟩, ⟨_, at_198, strip_198⟩, ⟨_, at_199, strip_199⟩, ⟨_, at_200, strip_200⟩, ⟨_, at_201, strip_201⟩, ⟨_, at_202, strip_202⟩, ⟨_, at_208, strip_208⟩, ⟨_, at_211, strip_211⟩, ⟨_, at_213, strip_213⟩, ⟨_, at_214, strip_214⟩, ⟨_, at_215, strip_215⟩, ⟨_, at_218, strip_218⟩, ⟨_, at_264, strip_264⟩, ⟨_, at_268, strip_268⟩, ⟨_, at_269, strip_269⟩, ⟨_, at_271, strip_271⟩, ⟨_, at_272, strip_272⟩, ⟨_, at_273, strip_273⟩, ⟨_, at_274, strip_274⟩, ⟨_, at_278, strip_278⟩, ⟨_, at_280, strip_280⟩, ⟨_, at_281, strip_281⟩, ⟨_, at_282, strip_282⟩, ⟨_, at_283, strip_283⟩, ⟨_, at_284, strip_284⟩, ⟨_, at_292, strip_292⟩, ⟨_, at_293, strip_293⟩, ⟨_, at_294, strip_294⟩, ⟨_, at_295, strip_295⟩, ⟨_, at_296, strip_296⟩, ⟨_, at_297, strip_297⟩, ⟨_, at_298, strip_298⟩, ⟨_, at_299, strip_299⟩, ⟨_, at_300, strip_300⟩, ⟨_, at_301, strip_301⟩, ⟨_, at_302, strip_302⟩, ⟨_, at_304, strip_304⟩, ⟨_, at_307, strip_307⟩, ⟨_, at_308, strip_308⟩, ⟨_, at_309, strip_309⟩, ⟨_, at_310, strip_310⟩, ⟨_, at_311, strip_311⟩, ⟨_, at_315, strip_315⟩, ⟨_, at_325, strip_325⟩, ⟨_, at_326, strip_326⟩, ⟨_, at_327, strip_327⟩, ⟨_, at_328, strip_328⟩, ⟨_, at_329, strip_329⟩, ⟨_, at_330, strip_330⟩, ⟨_, at_331, strip_331⟩, ⟨_, at_332, strip_332⟩, ⟨_, at_333, strip_333⟩, ⟨_, at_334, strip_334⟩, ⟨_, at_336, strip_336⟩, ⟨_, at_348, strip_348⟩, ⟨_, at_350, strip_350⟩, fun _ h => absurd h List.not_mem_nil⟩
theorem cid_ok : ∀ f, fidOf cidTab (cidOf cidTab f) = f := fid_cid (by kernel_rfl)
theorem mix : Tryz.prog.follows .mixedOrders = true := by kernel_rfl
theorem FT_ok : ∀ f F, FT f = some F → ∃ fn, Tryz.prog.funcs[fidOf cidTab f]? = some fn ∧ stripF Tryz.prog (cidOf cidTab) fn = some F := tab_ok strips
theorem orc_ok : ∀ f args s r, orc f = true → ans f args = some r → CallOK Tryz.prog (fidOf cidTab) GT f args [] s r := by
  intro f args s r hf hr
  have key : ∀ sz bytes zero, FT f = some (cloneF sz bytes zero) → zero.length = sz → cloneIds.lookup f = some (sz, bytes) → CallOK Tryz.prog (fidOf cidTab) GT f args [] s r := by
    intro sz bytes zero h1 h2 h3
    obtain ⟨fn, a1, a2⟩ := FT_ok f _ h1
    unfold ans at hr
    rw [h3] at hr
    split at hr
    · rename_i e
      cases e
      split at hr
      · rename_i hc
        simp only [Bool.and_eq_true] at hc
        cases hr
        exact clone_ok cid_ok mix a1 a2 h2 hc.1 hc.2
      · cases hr
    · cases hr
  unfold orc at hf
  have hcase : f = 164 ∨ f = 191 ∨ f = 197 := by
    by_cases e1 : f = 164
    · exact .inl e1
    by_cases e2 : f = 191
    · exact .inr (.inl e2)
    by_cases e3 : f = 197
    · exact .inr (.inr e3)
    have : cloneIds.lookup f = none := by simp [cloneIds, List.lookup, show (f == 164) = false from by simpa using e1, show (f == 191) = false from by simpa using e2, show (f == 197) = false from by simpa using e3]
    rw [this] at hf; cases hf
  rcases hcase with rfl | rfl | rfl
  · exact key 4 64 [.s (.int .i64 0), .s (.int .i64 0), .l 0 [], .l 0 []] rfl rfl rfl
  · exact key 2 32 [.s (.int .i64 0), .l 0 []] rfl rfl rfl
  · exact key 3 24 [.s (.int .i64 0), .s (.int .i64 0), .s (.int .i64 0)] rfl rfl rfl
theorem go_ok (n f : Nat) (args : List V) (bs : List Box) (s : Sup) (r : Res) : go n f args bs s = some r → CallOK Tryz.prog (fidOf cidTab) GT f args bs s r :=
  run2_ok cid_ok mix FT_ok orc_ok n f args bs s r
end Go.VM

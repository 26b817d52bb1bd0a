/- The functions of the seat, all of them, are those of the machine. Conditions: none. -/
import Derived.Test.YtcjdokngpmnkjaaDoorVMS
import Derived.Test.YtcjdokngpmnkjaaDoorVM32
import Derived.Test.YtcjdokngpmnkjaaDoorVM31

namespace Go.VM
open Go.Proofs
set_option maxRecDepth 100000
theorem at_60 : Tryd.prog.funcs[fidOf cidTab 60]? = some Tryd.f94 := by rw [show fidOf cidTab 60 = 94 from by kernel_rfl]; exact Tryd.func94
theorem at_106 : Tryd.prog.funcs[fidOf cidTab 106]? = some Tryd.f41 := by rw [show fidOf cidTab 106 = 41 from by kernel_rfl]; exact Tryd.func41
theorem at_107 : Tryd.prog.funcs[fidOf cidTab 107]? = some Tryd.f64 := by rw [show fidOf cidTab 107 = 64 from by kernel_rfl]; exact Tryd.func64
theorem at_108 : Tryd.prog.funcs[fidOf cidTab 108]? = some Tryd.f25 := by rw [show fidOf cidTab 108 = 25 from by kernel_rfl]; exact Tryd.func25
theorem at_118 : Tryd.prog.funcs[fidOf cidTab 118]? = some Tryd.f130 := by rw [show fidOf cidTab 118 = 130 from by kernel_rfl]; exact Tryd.func130
theorem at_119 : Tryd.prog.funcs[fidOf cidTab 119]? = some Tryd.f131 := by rw [show fidOf cidTab 119 = 131 from by kernel_rfl]; exact Tryd.func131
theorem at_120 : Tryd.prog.funcs[fidOf cidTab 120]? = some Tryd.f107 := by rw [show fidOf cidTab 120 = 107 from by kernel_rfl]; exact Tryd.func107
theorem at_121 : Tryd.prog.funcs[fidOf cidTab 121]? = some Tryd.f65 := by rw [show fidOf cidTab 121 = 65 from by kernel_rfl]; exact Tryd.func65
theorem at_122 : Tryd.prog.funcs[fidOf cidTab 122]? = some Tryd.f100 := by rw [show fidOf cidTab 122 = 100 from by kernel_rfl]; exact Tryd.func100
theorem at_123 : Tryd.prog.funcs[fidOf cidTab 123]? = some Tryd.f45 := by rw [show fidOf cidTab 123 = 45 from by kernel_rfl]; exact Tryd.func45
theorem at_124 : Tryd.prog.funcs[fidOf cidTab 124]? = some Tryd.f47 := by rw [show fidOf cidTab 124 = 47 from by kernel_rfl]; exact Tryd.func47
theorem at_125 : Tryd.prog.funcs[fidOf cidTab 125]? = some Tryd.f46 := by rw [show fidOf cidTab 125 = 46 from by kernel_rfl]; exact Tryd.func46
theorem at_137 : Tryd.prog.funcs[fidOf cidTab 137]? = some Tryd.f118 := by rw [show fidOf cidTab 137 = 118 from by kernel_rfl]; exact Tryd.func118
theorem at_138 : Tryd.prog.funcs[fidOf cidTab 138]? = some Tryd.f135 := by rw [show fidOf cidTab 138 = 135 from by kernel_rfl]; exact Tryd.func135
theorem at_139 : Tryd.prog.funcs[fidOf cidTab 139]? = some Tryd.f72 := by rw [show fidOf cidTab 139 = 72 from by kernel_rfl]; exact Tryd.func72
theorem at_140 : Tryd.prog.funcs[fidOf cidTab 140]? = some Tryd.f136 := by rw [show fidOf cidTab 140 = 136 from by kernel_rfl]; exact Tryd.func136
theorem at_141 : Tryd.prog.funcs[fidOf cidTab 141]? = some Tryd.f67 := by rw [show fidOf cidTab 141 = 67 from by kernel_rfl]; exact Tryd.func67
theorem at_142 : Tryd.prog.funcs[fidOf cidTab 142]? = some Tryd.f101 := by rw [show fidOf cidTab 142 = 101 from by kernel_rfl]; exact Tryd.func101
theorem at_143 : Tryd.prog.funcs[fidOf cidTab 143]? = some Tryd.f102 := by rw [show fidOf cidTab 143 = 102 from by kernel_rfl]; exact Tryd.func102
theorem at_144 : Tryd.prog.funcs[fidOf cidTab 144]? = some Tryd.f127 := by rw [show fidOf cidTab 144 = 127 from by kernel_rfl]; exact Tryd.func127
theorem at_145 : Tryd.prog.funcs[fidOf cidTab 145]? = some Tryd.f71 := by rw [show fidOf cidTab 145 = 71 from by kernel_rfl]; exact Tryd.func71
theorem at_146 : Tryd.prog.funcs[fidOf cidTab 146]? = some Tryd.f74 := by rw [show fidOf cidTab 146 = 74 from by kernel_rfl]; exact Tryd.func74
theorem at_147 : Tryd.prog.funcs[fidOf cidTab 147]? = some Tryd.f73 := by rw [show fidOf cidTab 147 = 73 from by kernel_rfl]; exact Tryd.func73
theorem at_158 : Tryd.prog.funcs[fidOf cidTab 158]? = some Tryd.f109 := by rw [show fidOf cidTab 158 = 109 from by kernel_rfl]; exact Tryd.func109
theorem at_159 : Tryd.prog.funcs[fidOf cidTab 159]? = some Tryd.f140 := by rw [show fidOf cidTab 159 = 140 from by kernel_rfl]; exact Tryd.func140
theorem at_160 : Tryd.prog.funcs[fidOf cidTab 160]? = some Tryd.f141 := by rw [show fidOf cidTab 160 = 141 from by kernel_rfl]; exact Tryd.func141
theorem at_161 : Tryd.prog.funcs[fidOf cidTab 161]? = some Tryd.f142 := by rw [show fidOf cidTab 161 = 142 from by kernel_rfl]; exact Tryd.func142
theorem at_162 : Tryd.prog.funcs[fidOf cidTab 162]? = some Tryd.f143 := by rw [show fidOf cidTab 162 = 143 from by kernel_rfl]; exact Tryd.func143
theorem at_163 : Tryd.prog.funcs[fidOf cidTab 163]? = some Tryd.f61 := by rw [show fidOf cidTab 163 = 61 from by kernel_rfl]; exact Tryd.func61
theorem at_164 : Tryd.prog.funcs[fidOf cidTab 164]? = some Tryd.f152 := by rw [show fidOf cidTab 164 = 152 from by kernel_rfl]; exact Tryd.func152
theorem at_165 : Tryd.prog.funcs[fidOf cidTab 165]? = some Tryd.f151 := by rw [show fidOf cidTab 165 = 151 from by kernel_rfl]; exact Tryd.func151
theorem at_166 : Tryd.prog.funcs[fidOf cidTab 166]? = some Tryd.f79 := by rw [show fidOf cidTab 166 = 79 from by kernel_rfl]; exact Tryd.func79
theorem at_167 : Tryd.prog.funcs[fidOf cidTab 167]? = some Tryd.f128 := by rw [show fidOf cidTab 167 = 128 from by kernel_rfl]; exact Tryd.func128
theorem at_168 : Tryd.prog.funcs[fidOf cidTab 168]? = some Tryd.f80 := by rw [show fidOf cidTab 168 = 80 from by kernel_rfl]; exact Tryd.func80
theorem at_169 : Tryd.prog.funcs[fidOf cidTab 169]? = some Tryd.f112 := by rw [show fidOf cidTab 169 = 112 from by kernel_rfl]; exact Tryd.func112
theorem at_170 : Tryd.prog.funcs[fidOf cidTab 170]? = some Tryd.f129 := by rw [show fidOf cidTab 170 = 129 from by kernel_rfl]; exact Tryd.func129
theorem at_171 : Tryd.prog.funcs[fidOf cidTab 171]? = some Tryd.f104 := by rw [show fidOf cidTab 171 = 104 from by kernel_rfl]; exact Tryd.func104
theorem at_172 : Tryd.prog.funcs[fidOf cidTab 172]? = some Tryd.f105 := by rw [show fidOf cidTab 172 = 105 from by kernel_rfl]; exact Tryd.func105
theorem at_173 : Tryd.prog.funcs[fidOf cidTab 173]? = some Tryd.f106 := by rw [show fidOf cidTab 173 = 106 from by kernel_rfl]; exact Tryd.func106
theorem at_174 : Tryd.prog.funcs[fidOf cidTab 174]? = some Tryd.f108 := by rw [show fidOf cidTab 174 = 108 from by kernel_rfl]; exact Tryd.func108
theorem at_180 : Tryd.prog.funcs[fidOf cidTab 180]? = some Tryd.f139 := by rw [show fidOf cidTab 180 = 139 from by kernel_rfl]; exact Tryd.func139
theorem at_181 : Tryd.prog.funcs[fidOf cidTab 181]? = some Tryd.f153 := by rw [show fidOf cidTab 181 = 153 from by kernel_rfl]; exact Tryd.func153
theorem at_182 : Tryd.prog.funcs[fidOf cidTab 182]? = some Tryd.f96 := by rw [show fidOf cidTab 182 = 96 from by kernel_rfl]; exact Tryd.func96
theorem at_183 : Tryd.prog.funcs[fidOf cidTab 183]? = some Tryd.f144 := by rw [show fidOf cidTab 183 = 144 from by kernel_rfl]; exact Tryd.func144
theorem at_184 : Tryd.prog.funcs[fidOf cidTab 184]? = some Tryd.f145 := by rw [show fidOf cidTab 184 = 145 from by kernel_rfl]; exact Tryd.func145
theorem at_185 : Tryd.prog.funcs[fidOf cidTab 185]? = some Tryd.f150 := by rw [show fidOf cidTab 185 = 150 from by kernel_rfl]; exact Tryd.func150
theorem at_186 : Tryd.prog.funcs[fidOf cidTab 186]? = some Tryd.f98 := by rw [show fidOf cidTab 186 = 98 from by kernel_rfl]; exact Tryd.func98
theorem at_187 : Tryd.prog.funcs[fidOf cidTab 187]? = some Tryd.f110 := by rw [show fidOf cidTab 187 = 110 from by kernel_rfl]; exact Tryd.func110
theorem at_188 : Tryd.prog.funcs[fidOf cidTab 188]? = some Tryd.f111 := by rw [show fidOf cidTab 188 = 111 from by kernel_rfl]; exact Tryd.func111
theorem at_189 : Tryd.prog.funcs[fidOf cidTab 189]? = some Tryd.f132 := by rw [show fidOf cidTab 189 = 132 from by kernel_rfl]; exact Tryd.func132
theorem at_190 : Tryd.prog.funcs[fidOf cidTab 190]? = some Tryd.f133 := by rw [show fidOf cidTab 190 = 133 from by kernel_rfl]; exact Tryd.func133
theorem at_191 : Tryd.prog.funcs[fidOf cidTab 191]? = some Tryd.f138 := by rw [show fidOf cidTab 191 = 138 from by kernel_rfl]; exact Tryd.func138
theorem at_192 : Tryd.prog.funcs[fidOf cidTab 192]? = some Tryd.f137 := by rw [show fidOf cidTab 192 = 137 from by kernel_rfl]; exact Tryd.func137
theorem at_193 : Tryd.prog.funcs[fidOf cidTab 193]? = some Tryd.f156 := by rw [show fidOf cidTab 193 = 156 from by kernel_rfl]; exact Tryd.func156
theorem at_194 : Tryd.prog.funcs[fidOf cidTab 194]? = some Tryd.f123 := by rw [show fidOf cidTab 194 = 123 from by kernel_rfl]; exact Tryd.func123
theorem at_195 : Tryd.prog.funcs[fidOf cidTab 195]? = some Tryd.f155 := by rw [show fidOf cidTab 195 = 155 from by kernel_rfl]; exact Tryd.func155
theorem at_196 : Tryd.prog.funcs[fidOf cidTab 196]? = some Tryd.f154 := by rw [show fidOf cidTab 196 = 154 from by kernel_rfl]; exact Tryd.func154
theorem at_197 : Tryd.prog.funcs[fidOf cidTab 197]? = some Tryd.f125 := by rw [show fidOf cidTab 197 = 125 from by kernel_rfl]; exact Tryd.func125
theorem at_198 : Tryd.prog.funcs[fidOf cidTab 198]? = some Tryd.f124 := by rw [show fidOf cidTab 198 = 124 from by kernel_rfl]; exact Tryd.func124
theorem at_199 : Tryd.prog.funcs[fidOf cidTab 199]? = some Tryd.f148 := by rw [show fidOf cidTab 199 = 148 from by kernel_rfl]; exact Tryd.func148
theorem at_200 : Tryd.prog.funcs[fidOf cidTab 200]? = some Tryd.f134 := by rw [show fidOf cidTab 200 = 134 from by kernel_rfl]; exact Tryd.func134
theorem at_201 : Tryd.prog.funcs[fidOf cidTab 201]? = some Tryd.f157 := by rw [show fidOf cidTab 201 = 157 from by kernel_rfl]; exact Tryd.func157
theorem at_202 : Tryd.prog.funcs[fidOf cidTab 202]? = some Tryd.f149 := by rw [show fidOf cidTab 202 = 149 from by kernel_rfl]; exact Tryd.func149
theorem at_208 : Tryd.prog.funcs[fidOf cidTab 208]? = some Tryd.f21 := by rw [show fidOf cidTab 208 = 21 from by kernel_rfl]; exact Tryd.func21
theorem at_211 : Tryd.prog.funcs[fidOf cidTab 211]? = some Tryd.f42 := by rw [show fidOf cidTab 211 = 42 from by kernel_rfl]; exact Tryd.func42
theorem at_213 : Tryd.prog.funcs[fidOf cidTab 213]? = some Tryd.f66 := by rw [show fidOf cidTab 213 = 66 from by kernel_rfl]; exact Tryd.func66
theorem at_214 : Tryd.prog.funcs[fidOf cidTab 214]? = some Tryd.f68 := by rw [show fidOf cidTab 214 = 68 from by kernel_rfl]; exact Tryd.func68
theorem at_215 : Tryd.prog.funcs[fidOf cidTab 215]? = some Tryd.f69 := by rw [show fidOf cidTab 215 = 69 from by kernel_rfl]; exact Tryd.func69
theorem at_218 : Tryd.prog.funcs[fidOf cidTab 218]? = some Tryd.f103 := by rw [show fidOf cidTab 218 = 103 from by kernel_rfl]; exact Tryd.func103
theorem at_220 : Tryd.prog.funcs[fidOf cidTab 220]? = some Tryd.f39 := by rw [show fidOf cidTab 220 = 39 from by kernel_rfl]; exact Tryd.func39
theorem at_221 : Tryd.prog.funcs[fidOf cidTab 221]? = some Tryd.f43 := by rw [show fidOf cidTab 221 = 43 from by kernel_rfl]; exact Tryd.func43
theorem at_223 : Tryd.prog.funcs[fidOf cidTab 223]? = some Tryd.f48 := by rw [show fidOf cidTab 223 = 48 from by kernel_rfl]; exact Tryd.func48
theorem at_226 : Tryd.prog.funcs[fidOf cidTab 226]? = some Tryd.f50 := by rw [show fidOf cidTab 226 = 50 from by kernel_rfl]; exact Tryd.func50
theorem at_227 : Tryd.prog.funcs[fidOf cidTab 227]? = some Tryd.f63 := by rw [show fidOf cidTab 227 = 63 from by kernel_rfl]; exact Tryd.func63
theorem at_228 : Tryd.prog.funcs[fidOf cidTab 228]? = some Tryd.f57 := by rw [show fidOf cidTab 228 = 57 from by kernel_rfl]; exact Tryd.func57
theorem at_229 : Tryd.prog.funcs[fidOf cidTab 229]? = some Tryd.f70 := by rw [show fidOf cidTab 229 = 70 from by kernel_rfl]; exact Tryd.func70
theorem at_230 : Tryd.prog.funcs[fidOf cidTab 230]? = some Tryd.f62 := by rw [show fidOf cidTab 230 = 62 from by kernel_rfl]; exact Tryd.func62
theorem at_231 : Tryd.prog.funcs[fidOf cidTab 231]? = some Tryd.f75 := by rw [show fidOf cidTab 231 = 75 from by kernel_rfl]; exact Tryd.func75
theorem at_236 : Tryd.prog.funcs[fidOf cidTab 236]? = some Tryd.f76 := by rw [show fidOf cidTab 236 = 76 from by kernel_rfl]; exact Tryd.func76
theorem at_237 : Tryd.prog.funcs[fidOf cidTab 237]? = some Tryd.f87 := by rw [show fidOf cidTab 237 = 87 from by kernel_rfl]; exact Tryd.func87
theorem at_238 : Tryd.prog.funcs[fidOf cidTab 238]? = some Tryd.f99 := by rw [show fidOf cidTab 238 = 99 from by kernel_rfl]; exact Tryd.func99
theorem at_241 : Tryd.prog.funcs[fidOf cidTab 241]? = some Tryd.f115 := by rw [show fidOf cidTab 241 = 115 from by kernel_rfl]; exact Tryd.func115
theorem at_242 : Tryd.prog.funcs[fidOf cidTab 242]? = some Tryd.f126 := by rw [show fidOf cidTab 242 = 126 from by kernel_rfl]; exact Tryd.func126
theorem at_244 : Tryd.prog.funcs[fidOf cidTab 244]? = some Tryd.f6 := by rw [show fidOf cidTab 244 = 6 from by kernel_rfl]; exact Tryd.func6
theorem at_245 : Tryd.prog.funcs[fidOf cidTab 245]? = some Tryd.f8 := by rw [show fidOf cidTab 245 = 8 from by kernel_rfl]; exact Tryd.func8
theorem at_247 : Tryd.prog.funcs[fidOf cidTab 247]? = some Tryd.f10 := by rw [show fidOf cidTab 247 = 10 from by kernel_rfl]; exact Tryd.func10
theorem at_248 : Tryd.prog.funcs[fidOf cidTab 248]? = some Tryd.f20 := by rw [show fidOf cidTab 248 = 20 from by kernel_rfl]; exact Tryd.func20
theorem at_249 : Tryd.prog.funcs[fidOf cidTab 249]? = some Tryd.f24 := by rw [show fidOf cidTab 249 = 24 from by kernel_rfl]; exact Tryd.func24
theorem at_250 : Tryd.prog.funcs[fidOf cidTab 250]? = some Tryd.f27 := by rw [show fidOf cidTab 250 = 27 from by kernel_rfl]; exact Tryd.func27
theorem at_251 : Tryd.prog.funcs[fidOf cidTab 251]? = some Tryd.f40 := by rw [show fidOf cidTab 251 = 40 from by kernel_rfl]; exact Tryd.func40
theorem at_252 : Tryd.prog.funcs[fidOf cidTab 252]? = some Tryd.f44 := by rw [show fidOf cidTab 252 = 44 from by kernel_rfl]; exact Tryd.func44
theorem at_253 : Tryd.prog.funcs[fidOf cidTab 253]? = some Tryd.f49 := by rw [show fidOf cidTab 253 = 49 from by kernel_rfl]; exact Tryd.func49
theorem at_283 : Tryd.prog.funcs[fidOf cidTab 283]? = some Tryd.f9 := by rw [show fidOf cidTab 283 = 9 from by kernel_rfl]; exact Tryd.func9
theorem at_294 : Tryd.prog.funcs[fidOf cidTab 294]? = some Tryd.f22 := by rw [show fidOf cidTab 294 = 22 from by kernel_rfl]; exact Tryd.func22
theorem at_304 : Tryd.prog.funcs[fidOf cidTab 304]? = some Tryd.f7 := by rw [show fidOf cidTab 304 = 7 from by kernel_rfl]; exact Tryd.func7
theorem at_309 : Tryd.prog.funcs[fidOf cidTab 309]? = some Tryd.f26 := by rw [show fidOf cidTab 309 = 26 from by kernel_rfl]; exact Tryd.func26
theorem at_334 : Tryd.prog.funcs[fidOf cidTab 334]? = some Tryd.f23 := by rw [show fidOf cidTab 334 = 23 from by kernel_rfl]; exact Tryd.func23
theorem at_351 : Tryd.prog.funcs[fidOf cidTab 351]? = some Tryd.f3 := by rw [show fidOf cidTab 351 = 3 from by kernel_rfl]; exact Tryd.func3
theorem strips : ∀ p ∈ tab, ∃ fn, Tryd.prog.funcs[fidOf cidTab p.1]? = some fn ∧ stripF Tryd.prog (cidOf cidTab) fn = some p.2 := by
  simp only [tab, List.forall_mem_cons]
  exact ⟨⟨_, at_60, strip_60⟩, ⟨_, at_106, strip_106⟩, ⟨_, at_107, strip_107⟩, ⟨_, at_108, strip_108⟩, ⟨_, at_118, strip_118⟩, ⟨_, at_119, strip_119⟩, ⟨_, at_120, strip_120⟩, ⟨_, at_121, strip_121⟩, ⟨_, at_122, strip_122⟩, ⟨_, at_123, strip_123⟩, ⟨_, at_124, strip_124⟩, ⟨_, at_125, strip_125⟩, ⟨_, at_137, strip_137⟩, ⟨_, at_138, strip_138⟩, ⟨_, at_139, strip_139⟩, ⟨_, at_140, strip_140⟩, ⟨_, at_141, strip_141⟩, ⟨_, at_142, strip_142⟩, ⟨_, at_143, strip_143⟩, ⟨_, at_144, strip_144⟩, ⟨_, at_145, strip_145⟩, ⟨_, at_146, strip_146⟩, ⟨_, at_147, strip_147⟩, ⟨_, at_158, strip_158⟩, ⟨_, at_159, strip_159⟩, ⟨_, at_160, strip_160⟩, ⟨_, at_161, strip_161⟩, ⟨_, at_162, strip_162⟩, ⟨_, at_163, strip_163⟩, ⟨_, at_164, strip_164⟩, ⟨_, at_165, strip_165⟩, ⟨_, at_166, strip_166⟩, ⟨_, at_167, strip_167⟩, ⟨_, at_168, strip_168⟩, ⟨_, at_169, strip_169⟩, ⟨_, at_170, strip_170⟩, ⟨_, at_171, strip_171⟩, ⟨_, at_172, strip_172⟩, ⟨_, at_173, strip_173⟩, ⟨_, at_174, strip_174⟩, ⟨_, at_180, strip_180⟩, ⟨_, at_181, strip_181⟩, ⟨_, at_182, strip_182⟩, ⟨_, at_183, strip_183⟩, ⟨_, at_184, strip_184⟩, ⟨_, at_185, strip_185⟩, ⟨_, at_186, strip_186⟩, ⟨_, at_187, strip_187⟩, ⟨_, at_188, strip_188⟩, ⟨_, at_189, strip_189⟩, ⟨_, at_190, strip_190⟩, ⟨_, at_191, strip_191⟩, ⟨_, at_192, strip_192⟩, ⟨_, at_193, strip_193⟩, ⟨_, at_194, strip_194⟩, ⟨_, at_195, strip_195⟩, ⟨_, at_196, strip_196⟩, ⟨_, at_197, strip_197⟩, ⟨_, at_198, strip_198⟩, ⟨_, at_199, strip_199⟩, ⟨_, at_200, strip_200⟩, ⟨_, at_201, strip_201⟩, ⟨_, at_202, strip_202⟩, ⟨_, at_208, strip_208⟩, ⟨_, at_211, strip_211⟩, ⟨_, at_213, strip_213⟩, ⟨_, at_214, strip_214⟩, ⟨_, at_215, strip_215⟩, ⟨_, at_218, strip_218⟩, ⟨_, at_220, strip_220⟩, ⟨_, at_221, strip_221⟩, ⟨_, at_223, strip_223⟩, ⟨_, at_226, strip_226⟩, ⟨_, at_227, strip_227⟩, ⟨_, at_228, strip_228⟩, ⟨_, at_229, strip_229⟩, ⟨_, at_230, strip_230⟩, ⟨_, at_231, strip_231⟩, ⟨_, at_236, strip_236⟩, ⟨_, at_237, strip_237⟩, ⟨_, at_238, strip_238⟩, ⟨_, at_241, strip_241⟩, ⟨_, at_242, strip_242⟩, ⟨_, at_244, strip_244⟩, ⟨_, at_245, strip_245⟩, ⟨_, at_247, strip_247⟩, ⟨_, at_248, strip_248⟩, ⟨_, at_249, strip_249⟩, ⟨_, at_250, strip_250⟩, ⟨_, at_251, strip_251⟩, ⟨_, at_252, strip_252⟩, ⟨_, at_253, strip_253⟩, ⟨_, at_283, strip_283⟩, ⟨_, at_294, strip_294⟩, ⟨_, at_304, strip_304⟩, ⟨_, at_309, strip_309⟩, ⟨_, at_334, strip_334⟩, ⟨_, at_351, strip_351⟩, fun _ h => absurd h List.not_mem_nil⟩
theorem cid_ok : ∀ f, fidOf cidTab (cidOf cidTab f) = f := fid_cid (by kernel_rfl)
theorem mix : Tryd.prog.follows .mixedOrders = true := by kernel_rfl
theorem FT_ok : ∀ f F, FT f = some F → ∃ fn, Tryd.prog.funcs[fidOf cidTab f]? = some fn ∧ stripF Tryd.prog (cidOf cidTab) fn = some F := tab_ok strips
theorem orc_ok : ∀ f args s r, orc f = true → ans f args = some r → CallOK Tryd.prog (fidOf cidTab) GT f args [] s r := by
  intro f args s r hf hr
  have key : ∀ sz bytes zero, FT f = some (cloneF sz bytes zero) → zero.length = sz → cloneIds.lookup f = some (sz, bytes) → CallOK Tryd.prog (fidOf cidTab) GT f args [] s r := by
    intro sz bytes zero h1 h2 h3
    obtain ⟨fn, a1, a2⟩ := FT_ok f _ h1
    unfold ans at hr
    rw [h3] at hr
    split at hr
    · rename_i e
      cases e
      split at hr
      · rename_i hc
        simp only [Bool.and_eq_true] at hc
        cases hr
        exact clone_ok cid_ok mix a1 a2 h2 hc.1 hc.2
      · cases hr
    · cases hr
  unfold orc at hf
  have hcase : f = 164 ∨ f = 191 ∨ f = 197 := by
    by_cases e1 : f = 164
    · exact .inl e1
    by_cases e2 : f = 191
    · exact .inr (.inl e2)
    by_cases e3 : f = 197
    · exact .inr (.inr e3)
    have : cloneIds.lookup f = none := by simp [cloneIds, List.lookup, show (f == 164) = false from by simpa using e1, show (f == 191) = false from by simpa using e2, show (f == 197) = false from by simpa using e3]
    rw [this] at hf; cases hf
  rcases hcase with rfl | rfl | rfl
  · exact key 4 64 [.s (.int .i64 0), .s (.int .i64 0), .l 0 [], .l 0 []] rfl rfl rfl
  · exact key 2 32 [.s (.int .i64 0), .l 0 []] rfl rfl rfl
  · exact key 3 24 [.s (.int .i64 0), .s (.int .i64 0), .s (.int .i64 0)] rfl rfl rfl
theorem go_ok (n f : Nat) (args : List V) (bs : List Box) (s : Sup) (r : Res) : go n f args bs s = some r → CallOK Tryd.prog (fidOf cidTab) GT f args bs s r :=
  run2_ok cid_ok mix FT_ok orc_ok n f args bs s r
end Go.VM

/- The functions of the seat are those of the translation. Conditions: none. -/
import Derived.Test.YtfpkfcfiihfopaaDoorChecked
import Derived.KernelRfl
import Derived.Test.YtfpkfcfiihfopaaDoorVMF

namespace Go.VM
open Go.Proofs
def cidTab : List (Nat × Nat) := [(4, 383), (16, 289), (18, 290), (17, 323), (19, 279), (20, 384), (21, 275), (22, 276), (23, 385), (24, 386), (56, 320), (59, 321), (57, 322), (58, 345), (60, 305), (61, 306), (62, 303), (63, 239), (64, 277), (27, 226), (29, 228), (115, 343), (116, 344), (39, 284), (87, 330), (117, 335), (31, 230), (79, 240), (71, 236), (74, 237), (65, 317), (66, 318), (94, 310), (95, 311), (75, 163), (78, 238), (124, 241), (36, 166), (118, 143), (68, 315), (122, 336), (125, 186), (129, 242), (88, 158), (89, 187), (90, 188), (72, 168), (37, 169), (156, 167), (157, 170), (104, 60), (44, 137), (121, 200), (113, 138), (162, 197), (161, 198), (142, 180), (108, 159), (109, 160), (110, 161), (111, 162), (159, 202), (126, 183), (127, 184), (153, 185), (151, 181), (152, 182), (164, 195), (163, 196), (170, 193), (175, 194), (176, 201)]
noncomputable abbrev SF := stripF Tryd.prog (cidOf cidTab)
theorem s383 : SF Tryd.f4 = some F383 := by kernel_rfl
theorem s289 : SF Tryd.f16 = some F289 := by kernel_rfl
theorem s290 : SF Tryd.f18 = some F290 := by kernel_rfl
theorem s323 : SF Tryd.f17 = some F323 := by kernel_rfl
theorem s279 : SF Tryd.f19 = some F279 := by kernel_rfl
theorem s384 : SF Tryd.f20 = some F384 := by kernel_rfl
theorem s275 : SF Tryd.f21 = some F275 := by kernel_rfl
theorem s276 : SF Tryd.f22 = some F276 := by kernel_rfl
theorem s385 : SF Tryd.f23 = some F385 := by kernel_rfl
theorem s386 : SF Tryd.f24 = some F386 := by kernel_rfl
theorem s320 : SF Tryd.f56 = some F320 := by kernel_rfl
theorem s321 : SF Tryd.f59 = some F321 := by kernel_rfl
theorem s322 : SF Tryd.f57 = some F322 := by kernel_rfl
theorem s345 : SF Tryd.f58 = some F345 := by kernel_rfl
theorem s305 : SF Tryd.f60 = some F305 := by kernel_rfl
theorem s306 : SF Tryd.f61 = some F306 := by kernel_rfl
theorem s303 : SF Tryd.f62 = some F303 := by kernel_rfl
theorem s239 : SF Tryd.f63 = some F239 := by kernel_rfl
theorem s277 : SF Tryd.f64 = some F277 := by kernel_rfl
theorem s226 : SF Tryd.f27 = some F226 := by kernel_rfl
theorem s228 : SF Tryd.f29 = some F228 := by kernel_rfl
theorem s343 : SF Tryd.f115 = some F343 := by kernel_rfl
theorem s344 : SF Tryd.f116 = some F344 := by kernel_rfl
theorem s284 : SF Tryd.f39 = some F284 := by kernel_rfl
theorem s330 : SF Tryd.f87 = some F330 := by kernel_rfl
theorem s335 : SF Tryd.f117 = some F335 := by kernel_rfl
theorem s230 : SF Tryd.f31 = some F230 := by kernel_rfl
theorem s240 : SF Tryd.f79 = some F240 := by kernel_rfl
theorem s236 : SF Tryd.f71 = some F236 := by kernel_rfl
theorem s237 : SF Tryd.f74 = some F237 := by kernel_rfl
theorem s317 : SF Tryd.f65 = some F317 := by kernel_rfl
theorem s318 : SF Tryd.f66 = some F318 := by kernel_rfl
theorem s310 : SF Tryd.f94 = some F310 := by kernel_rfl
theorem s311 : SF Tryd.f95 = some F311 := by kernel_rfl
theorem s163 : SF Tryd.f75 = some F163 := by kernel_rfl
theorem s238 : SF Tryd.f78 = some F238 := by kernel_rfl
theorem s241 : SF Tryd.f124 = some F241 := by kernel_rfl
theorem s166 : SF Tryd.f36 = some F166 := by kernel_rfl
theorem s143 : SF Tryd.f118 = some F143 := by kernel_rfl
theorem s315 : SF Tryd.f68 = some F315 := by kernel_rfl
theorem s336 : SF Tryd.f122 = some F336 := by kernel_rfl
theorem s186 : SF Tryd.f125 = some F186 := by kernel_rfl
theorem s242 : SF Tryd.f129 = some F242 := by kernel_rfl
theorem s158 : SF Tryd.f88 = some F158 := by kernel_rfl
theorem s187 : SF Tryd.f89 = some F187 := by kernel_rfl
theorem s188 : SF Tryd.f90 = some F188 := by kernel_rfl
theorem s168 : SF Tryd.f72 = some F168 := by kernel_rfl
theorem s169 : SF Tryd.f37 = some F169 := by kernel_rfl
theorem s167 : SF Tryd.f156 = some F167 := by kernel_rfl
theorem s170 : SF Tryd.f157 = some F170 := by kernel_rfl
theorem s60 : SF Tryd.f104 = some F60 := by kernel_rfl
theorem s137 : SF Tryd.f44 = some F137 := by kernel_rfl
theorem s200 : SF Tryd.f121 = some F200 := by kernel_rfl
theorem s138 : SF Tryd.f113 = some F138 := by kernel_rfl
theorem s197 : SF Tryd.f162 = some F197 := by kernel_rfl
theorem s198 : SF Tryd.f161 = some F198 := by kernel_rfl
theorem s180 : SF Tryd.f142 = some F180 := by kernel_rfl
theorem s159 : SF Tryd.f108 = some F159 := by kernel_rfl
theorem s160 : SF Tryd.f109 = some F160 := by kernel_rfl
theorem s161 : SF Tryd.f110 = some F161 := by kernel_rfl
theorem s162 : SF Tryd.f111 = some F162 := by kernel_rfl
theorem s202 : SF Tryd.f159 = some F202 := by kernel_rfl
theorem s183 : SF Tryd.f126 = some F183 := by kernel_rfl
theorem s184 : SF Tryd.f127 = some F184 := by kernel_rfl
theorem s185 : SF Tryd.f153 = some F185 := by kernel_rfl
theorem s181 : SF Tryd.f151 = some F181 := by kernel_rfl
theorem s182 : SF Tryd.f152 = some F182 := by kernel_rfl
theorem s195 : SF Tryd.f164 = some F195 := by kernel_rfl
theorem s196 : SF Tryd.f163 = some F196 := by kernel_rfl
theorem s193 : SF Tryd.f170 = some F193 := by kernel_rfl
theorem s194 : SF Tryd.f175 = some F194 := by kernel_rfl
theorem s201 : SF Tryd.f176 = some F201 := by kernel_rfl
end Go.VM

/- The functions of the seat are those of the translation. Conditions: none. -/
import Derived.Test.YtfpkfcfiihfopaaDoorChecked
import Derived.KernelRfl
import Derived.Test.YtfpkfcfiihfopaaDoorBVMF

namespace Go.VM
open Go.Proofs
def cidTab : List (Nat × Nat) := [(5, 387), (16, 289), (18, 290), (25, 288), (26, 287), (13, 223), (21, 275), (22, 276), (14, 224), (15, 225), (56, 320), (59, 321), (65, 317), (66, 318), (67, 319), (46, 144), (68, 315), (69, 316), (50, 118), (70, 139), (31, 230), (53, 231), (62, 303), (63, 239), (32, 232), (54, 233), (33, 234), (55, 235), (27, 226), (29, 228), (36, 166), (118, 143), (119, 331), (120, 342), (104, 60), (44, 137), (121, 200), (113, 138), (122, 336), (123, 341), (75, 163), (78, 238), (79, 240), (71, 236), (74, 237), (88, 158), (89, 187), (90, 188), (72, 168), (37, 169), (156, 167), (157, 170), (158, 349), (108, 159), (109, 160), (110, 161), (111, 162), (159, 202), (126, 183), (127, 184), (153, 185), (160, 173), (125, 186), (129, 242), (124, 241), (142, 180), (151, 181), (152, 182), (164, 195), (163, 196), (162, 197), (161, 198), (170, 193), (175, 194), (176, 201)]
noncomputable abbrev SF := stripF Tryd.prog (cidOf cidTab)
theorem s387 : SF Tryd.f5 = some F387 := by kernel_rfl
theorem s289 : SF Tryd.f16 = some F289 := by kernel_rfl
theorem s290 : SF Tryd.f18 = some F290 := by kernel_rfl
theorem s288 : SF Tryd.f25 = some F288 := by kernel_rfl
theorem s287 : SF Tryd.f26 = some F287 := by kernel_rfl
theorem s223 : SF Tryd.f13 = some F223 := by kernel_rfl
theorem s275 : SF Tryd.f21 = some F275 := by kernel_rfl
theorem s276 : SF Tryd.f22 = some F276 := by kernel_rfl
theorem s224 : SF Tryd.f14 = some F224 := by kernel_rfl
theorem s225 : SF Tryd.f15 = some F225 := by kernel_rfl
theorem s320 : SF Tryd.f56 = some F320 := by kernel_rfl
theorem s321 : SF Tryd.f59 = some F321 := by kernel_rfl
theorem s317 : SF Tryd.f65 = some F317 := by kernel_rfl
theorem s318 : SF Tryd.f66 = some F318 := by kernel_rfl
theorem s319 : SF Tryd.f67 = some F319 := by kernel_rfl
theorem s144 : SF Tryd.f46 = some F144 := by kernel_rfl
theorem s315 : SF Tryd.f68 = some F315 := by kernel_rfl
theorem s316 : SF Tryd.f69 = some F316 := by kernel_rfl
theorem s118 : SF Tryd.f50 = some F118 := by kernel_rfl
theorem s139 : SF Tryd.f70 = some F139 := by kernel_rfl
theorem s230 : SF Tryd.f31 = some F230 := by kernel_rfl
theorem s231 : SF Tryd.f53 = some F231 := by kernel_rfl
theorem s303 : SF Tryd.f62 = some F303 := by kernel_rfl
theorem s239 : SF Tryd.f63 = some F239 := by kernel_rfl
theorem s232 : SF Tryd.f32 = some F232 := by kernel_rfl
theorem s233 : SF Tryd.f54 = some F233 := by kernel_rfl
theorem s234 : SF Tryd.f33 = some F234 := by kernel_rfl
theorem s235 : SF Tryd.f55 = some F235 := by kernel_rfl
theorem s226 : SF Tryd.f27 = some F226 := by kernel_rfl
theorem s228 : SF Tryd.f29 = some F228 := by kernel_rfl
theorem s166 : SF Tryd.f36 = some F166 := by kernel_rfl
theorem s143 : SF Tryd.f118 = some F143 := by kernel_rfl
theorem s331 : SF Tryd.f119 = some F331 := by kernel_rfl
theorem s342 : SF Tryd.f120 = some F342 := by kernel_rfl
theorem s60 : SF Tryd.f104 = some F60 := by kernel_rfl
theorem s137 : SF Tryd.f44 = some F137 := by kernel_rfl
theorem s200 : SF Tryd.f121 = some F200 := by kernel_rfl
theorem s138 : SF Tryd.f113 = some F138 := by kernel_rfl
theorem s336 : SF Tryd.f122 = some F336 := by kernel_rfl
theorem s341 : SF Tryd.f123 = some F341 := by kernel_rfl
theorem s163 : SF Tryd.f75 = some F163 := by kernel_rfl
theorem s238 : SF Tryd.f78 = some F238 := by kernel_rfl
theorem s240 : SF Tryd.f79 = some F240 := by kernel_rfl
theorem s236 : SF Tryd.f71 = some F236 := by kernel_rfl
theorem s237 : SF Tryd.f74 = some F237 := by kernel_rfl
theorem s158 : SF Tryd.f88 = some F158 := by kernel_rfl
theorem s187 : SF Tryd.f89 = some F187 := by kernel_rfl
theorem s188 : SF Tryd.f90 = some F188 := by kernel_rfl
theorem s168 : SF Tryd.f72 = some F168 := by kernel_rfl
theorem s169 : SF Tryd.f37 = some F169 := by kernel_rfl
theorem s167 : SF Tryd.f156 = some F167 := by kernel_rfl
theorem s170 : SF Tryd.f157 = some F170 := by kernel_rfl
theorem s349 : SF Tryd.f158 = some F349 := by kernel_rfl
theorem s159 : SF Tryd.f108 = some F159 := by kernel_rfl
theorem s160 : SF Tryd.f109 = some F160 := by kernel_rfl
theorem s161 : SF Tryd.f110 = some F161 := by kernel_rfl
theorem s162 : SF Tryd.f111 = some F162 := by kernel_rfl
theorem s202 : SF Tryd.f159 = some F202 := by kernel_rfl
theorem s183 : SF Tryd.f126 = some F183 := by kernel_rfl
theorem s184 : SF Tryd.f127 = some F184 := by kernel_rfl
theorem s185 : SF Tryd.f153 = some F185 := by kernel_rfl
theorem s173 : SF Tryd.f160 = some F173 := by kernel_rfl
theorem s186 : SF Tryd.f125 = some F186 := by kernel_rfl
theorem s242 : SF Tryd.f129 = some F242 := by kernel_rfl
theorem s241 : SF Tryd.f124 = some F241 := by kernel_rfl
theorem s180 : SF Tryd.f142 = some F180 := by kernel_rfl
theorem s181 : SF Tryd.f151 = some F181 := by kernel_rfl
theorem s182 : SF Tryd.f152 = some F182 := by kernel_rfl
theorem s195 : SF Tryd.f164 = some F195 := by kernel_rfl
theorem s196 : SF Tryd.f163 = some F196 := by kernel_rfl
theorem s197 : SF Tryd.f162 = some F197 := by kernel_rfl
theorem s198 : SF Tryd.f161 = some F198 := by kernel_rfl
theorem s193 : SF Tryd.f170 = some F193 := by kernel_rfl
theorem s194 : SF Tryd.f175 = some F194 := by kernel_rfl
theorem s201 : SF Tryd.f176 = some F201 := by kernel_rfl
end Go.VM

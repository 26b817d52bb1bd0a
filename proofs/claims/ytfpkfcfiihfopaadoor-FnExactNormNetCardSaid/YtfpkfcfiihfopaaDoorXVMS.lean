/- The functions of the seat are those of the translation. Conditions: none. -/
import Derived.Test.YtfpkfcfiihfopaaDoorChecked
import Derived.KernelRfl
import Derived.Test.YtfpkfcfiihfopaaDoorXVMF

namespace Go.VM
open Go.Proofs
def cidTab : List (Nat × Nat) := [(3, 219), (9, 220), (11, 221), (10, 222), (12, 105), (13, 223), (14, 224), (15, 225), (27, 226), (45, 227), (29, 228), (49, 229), (46, 144), (47, 142), (48, 214), (50, 118), (51, 119), (52, 120), (31, 230), (53, 231), (32, 232), (54, 233), (33, 234), (55, 235), (71, 236), (74, 237), (36, 166), (112, 218), (44, 137), (104, 60), (113, 138), (70, 139), (114, 140), (78, 238), (63, 239), (79, 240), (124, 241), (88, 158), (89, 187), (90, 188), (72, 168), (37, 169), (108, 159), (109, 160), (110, 161), (111, 162), (75, 163), (155, 164), (154, 165), (129, 242), (142, 180), (151, 181), (152, 182), (126, 183), (127, 184), (153, 185), (125, 186), (170, 193), (175, 194), (164, 195), (163, 196), (162, 197), (161, 198), (176, 201)]
noncomputable abbrev SF := stripF Tryd.prog (cidOf cidTab)
theorem s219 : SF Tryd.f3 = some F219 := by kernel_rfl
theorem s220 : SF Tryd.f9 = some F220 := by kernel_rfl
theorem s221 : SF Tryd.f11 = some F221 := by kernel_rfl
theorem s222 : SF Tryd.f10 = some F222 := by kernel_rfl
theorem s105 : SF Tryd.f12 = some F105 := by kernel_rfl
theorem s223 : SF Tryd.f13 = some F223 := by kernel_rfl
theorem s224 : SF Tryd.f14 = some F224 := by kernel_rfl
theorem s225 : SF Tryd.f15 = some F225 := by kernel_rfl
theorem s226 : SF Tryd.f27 = some F226 := by kernel_rfl
theorem s227 : SF Tryd.f45 = some F227 := by kernel_rfl
theorem s228 : SF Tryd.f29 = some F228 := by kernel_rfl
theorem s229 : SF Tryd.f49 = some F229 := by kernel_rfl
theorem s144 : SF Tryd.f46 = some F144 := by kernel_rfl
theorem s142 : SF Tryd.f47 = some F142 := by kernel_rfl
theorem s214 : SF Tryd.f48 = some F214 := by kernel_rfl
theorem s118 : SF Tryd.f50 = some F118 := by kernel_rfl
theorem s119 : SF Tryd.f51 = some F119 := by kernel_rfl
theorem s120 : SF Tryd.f52 = some F120 := by kernel_rfl
theorem s230 : SF Tryd.f31 = some F230 := by kernel_rfl
theorem s231 : SF Tryd.f53 = some F231 := by kernel_rfl
theorem s232 : SF Tryd.f32 = some F232 := by kernel_rfl
theorem s233 : SF Tryd.f54 = some F233 := by kernel_rfl
theorem s234 : SF Tryd.f33 = some F234 := by kernel_rfl
theorem s235 : SF Tryd.f55 = some F235 := by kernel_rfl
theorem s236 : SF Tryd.f71 = some F236 := by kernel_rfl
theorem s237 : SF Tryd.f74 = some F237 := by kernel_rfl
theorem s166 : SF Tryd.f36 = some F166 := by kernel_rfl
theorem s218 : SF Tryd.f112 = some F218 := by kernel_rfl
theorem s137 : SF Tryd.f44 = some F137 := by kernel_rfl
theorem s60 : SF Tryd.f104 = some F60 := by kernel_rfl
theorem s138 : SF Tryd.f113 = some F138 := by kernel_rfl
theorem s139 : SF Tryd.f70 = some F139 := by kernel_rfl
theorem s140 : SF Tryd.f114 = some F140 := by kernel_rfl
theorem s238 : SF Tryd.f78 = some F238 := by kernel_rfl
theorem s239 : SF Tryd.f63 = some F239 := by kernel_rfl
theorem s240 : SF Tryd.f79 = some F240 := by kernel_rfl
theorem s241 : SF Tryd.f124 = some F241 := by kernel_rfl
theorem s158 : SF Tryd.f88 = some F158 := by kernel_rfl
theorem s187 : SF Tryd.f89 = some F187 := by kernel_rfl
theorem s188 : SF Tryd.f90 = some F188 := by kernel_rfl
theorem s168 : SF Tryd.f72 = some F168 := by kernel_rfl
theorem s169 : SF Tryd.f37 = some F169 := by kernel_rfl
theorem s159 : SF Tryd.f108 = some F159 := by kernel_rfl
theorem s160 : SF Tryd.f109 = some F160 := by kernel_rfl
theorem s161 : SF Tryd.f110 = some F161 := by kernel_rfl
theorem s162 : SF Tryd.f111 = some F162 := by kernel_rfl
theorem s163 : SF Tryd.f75 = some F163 := by kernel_rfl
theorem s164 : SF Tryd.f155 = some F164 := by kernel_rfl
theorem s165 : SF Tryd.f154 = some F165 := by kernel_rfl
theorem s242 : SF Tryd.f129 = some F242 := by kernel_rfl
theorem s180 : SF Tryd.f142 = some F180 := by kernel_rfl
theorem s181 : SF Tryd.f151 = some F181 := by kernel_rfl
theorem s182 : SF Tryd.f152 = some F182 := by kernel_rfl
theorem s183 : SF Tryd.f126 = some F183 := by kernel_rfl
theorem s184 : SF Tryd.f127 = some F184 := by kernel_rfl
theorem s185 : SF Tryd.f153 = some F185 := by kernel_rfl
theorem s186 : SF Tryd.f125 = some F186 := by kernel_rfl
theorem s193 : SF Tryd.f170 = some F193 := by kernel_rfl
theorem s194 : SF Tryd.f175 = some F194 := by kernel_rfl
theorem s195 : SF Tryd.f164 = some F195 := by kernel_rfl
theorem s196 : SF Tryd.f163 = some F196 := by kernel_rfl
theorem s197 : SF Tryd.f162 = some F197 := by kernel_rfl
theorem s198 : SF Tryd.f161 = some F198 := by kernel_rfl
theorem s201 : SF Tryd.f176 = some F201 := by kernel_rfl
end Go.VM

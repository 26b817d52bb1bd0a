/- The functions of the seat are those of the translation. Conditions: none. -/
import Derived.Test.YtfpkfcfiihfopaaDoorChecked
import Derived.KernelRfl
import Derived.Test.YtfpkfcfiihfopaaDoorPVMF

namespace Go.VM
open Go.Proofs
def cidTab : List (Nat × Nat) := [(6, 388), (27, 226), (29, 228), (28, 369), (30, 375), (31, 230), (32, 232), (33, 234), (71, 236), (74, 237), (36, 166), (72, 168), (73, 377), (75, 163), (44, 137), (76, 378), (77, 380), (78, 238), (63, 239), (79, 240), (124, 241), (88, 158), (89, 187), (90, 188), (37, 169), (125, 186), (104, 60), (108, 159), (109, 160), (110, 161), (111, 162), (126, 183), (127, 184), (128, 382), (129, 242), (142, 180), (162, 197), (161, 198), (151, 181), (152, 182), (153, 185), (164, 195), (163, 196), (170, 193), (175, 194), (176, 201)]
noncomputable abbrev SF := stripF Tryd.prog (cidOf cidTab)
theorem s388 : SF Tryd.f6 = some F388 := by kernel_rfl
theorem s226 : SF Tryd.f27 = some F226 := by kernel_rfl
theorem s228 : SF Tryd.f29 = some F228 := by kernel_rfl
theorem s369 : SF Tryd.f28 = some F369 := by kernel_rfl
theorem s375 : SF Tryd.f30 = some F375 := by kernel_rfl
theorem s230 : SF Tryd.f31 = some F230 := by kernel_rfl
theorem s232 : SF Tryd.f32 = some F232 := by kernel_rfl
theorem s234 : SF Tryd.f33 = some F234 := by kernel_rfl
theorem s236 : SF Tryd.f71 = some F236 := by kernel_rfl
theorem s237 : SF Tryd.f74 = some F237 := by kernel_rfl
theorem s166 : SF Tryd.f36 = some F166 := by kernel_rfl
theorem s168 : SF Tryd.f72 = some F168 := by kernel_rfl
theorem s377 : SF Tryd.f73 = some F377 := by kernel_rfl
theorem s163 : SF Tryd.f75 = some F163 := by kernel_rfl
theorem s137 : SF Tryd.f44 = some F137 := by kernel_rfl
theorem s378 : SF Tryd.f76 = some F378 := by kernel_rfl
theorem s380 : SF Tryd.f77 = some F380 := by kernel_rfl
theorem s238 : SF Tryd.f78 = some F238 := by kernel_rfl
theorem s239 : SF Tryd.f63 = some F239 := by kernel_rfl
theorem s240 : SF Tryd.f79 = some F240 := by kernel_rfl
theorem s241 : SF Tryd.f124 = some F241 := by kernel_rfl
theorem s158 : SF Tryd.f88 = some F158 := by kernel_rfl
theorem s187 : SF Tryd.f89 = some F187 := by kernel_rfl
theorem s188 : SF Tryd.f90 = some F188 := by kernel_rfl
theorem s169 : SF Tryd.f37 = some F169 := by kernel_rfl
theorem s186 : SF Tryd.f125 = some F186 := by kernel_rfl
theorem s60 : SF Tryd.f104 = some F60 := by kernel_rfl
theorem s159 : SF Tryd.f108 = some F159 := by kernel_rfl
theorem s160 : SF Tryd.f109 = some F160 := by kernel_rfl
theorem s161 : SF Tryd.f110 = some F161 := by kernel_rfl
theorem s162 : SF Tryd.f111 = some F162 := by kernel_rfl
theorem s183 : SF Tryd.f126 = some F183 := by kernel_rfl
theorem s184 : SF Tryd.f127 = some F184 := by kernel_rfl
theorem s382 : SF Tryd.f128 = some F382 := by kernel_rfl
theorem s242 : SF Tryd.f129 = some F242 := by kernel_rfl
theorem s180 : SF Tryd.f142 = some F180 := by kernel_rfl
theorem s197 : SF Tryd.f162 = some F197 := by kernel_rfl
theorem s198 : SF Tryd.f161 = some F198 := by kernel_rfl
theorem s181 : SF Tryd.f151 = some F181 := by kernel_rfl
theorem s182 : SF Tryd.f152 = some F182 := by kernel_rfl
theorem s185 : SF Tryd.f153 = some F185 := by kernel_rfl
theorem s195 : SF Tryd.f164 = some F195 := by kernel_rfl
theorem s196 : SF Tryd.f163 = some F196 := by kernel_rfl
theorem s193 : SF Tryd.f170 = some F193 := by kernel_rfl
theorem s194 : SF Tryd.f175 = some F194 := by kernel_rfl
theorem s201 : SF Tryd.f176 = some F201 := by kernel_rfl
end Go.VM

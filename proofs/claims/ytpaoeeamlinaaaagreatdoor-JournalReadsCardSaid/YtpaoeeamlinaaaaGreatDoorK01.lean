/- Contracts of library functions at this dump, laid by the kit's shelf.
   Journal, plain: records, their lines, what reading a text finds. No program in sight.
   Journal, plain: the lines of records. No program in sight. -/
import Derived.Shelf.Strings.BuilderK
import Derived.Shelf.Strconv.Atoi
import Derived.Shelf.LaysM
import Derived.Shelf.Strconv.Itoa3
import Derived.Shelf.LaysC
import Derived.Shelf.Strings.Cut
import Derived.Shelf.Strings.Prefix
import Derived.Shelf.Strings.Split
import Derived.Test.YtpaoeeamlinaaaaGreatDoorProg
import Derived.Lib.ItoaNum
set_option linter.unusedVariables false
namespace Go.Proofs
open Go.Shelf
def Tryz.lays169_ren : Go.Shelf.Ren := ⟨fun | 169 => 39 | n => n, fun | 70 => 73 | 9 => 9 | 0 => 0 | 72 => 75 | 37 => 48 | 127 => 95 | 3 => 3 | 5 => 5 | n => n, fun | n => n⟩
theorem Tryz.lays169 : Go.Proofs.Lays.n169 Tryz.prog Tryz.lays169_ren := {
  mixed := by kernel_rfl
  f169 := Tryz.func39.trans (congrArg some (by kernel_rfl))
  t0 := Tryz.underlying0
  a0 := Tryz.isAgg0
  z0 := Tryz.sizeOf0
  v0 := Tryz.zeroValue0
  t3 := Tryz.underlying3
  a3 := Tryz.isAgg3
  z3 := Tryz.sizeOf3
  v3 := Tryz.zeroValue3
  t9 := Tryz.underlying9
  a9 := Tryz.isAgg9
  z9 := Tryz.sizeOf9
  v9 := Tryz.zeroValue9
  t37 := Tryz.underlying48
  a37 := Tryz.isAgg48
  z37 := Tryz.sizeOf48
  v37 := Tryz.zeroValue48
  t70 := Tryz.underlying73
  a70 := Tryz.isAgg73
  z70 := Tryz.sizeOf73
  v70 := Tryz.zeroValue73
  t72 := Tryz.underlying75
  a72 := Tryz.isAgg75
  z72 := Tryz.sizeOf75
  v72 := Tryz.zeroValue75
  t127 := Tryz.underlying95
  a127 := Tryz.isAgg95
  z127 := Tryz.sizeOf95
  v127 := Tryz.zeroValue95 }
theorem Tryz.Builder_Extra_169 : Builder.Extra Tryz.prog Tryz.lays169_ren := {
  sizeBuilder := by kernel_rfl
  liesBuilder := by kernel_rfl
  t5 := Tryz.underlying5
  a5 := Tryz.isAgg5
  z5 := Tryz.sizeOf5
  v5 := Tryz.zeroValue5
  infoByte := by kernel_rfl
  cellsByte := by kernel_rfl
  sizeByte := by kernel_rfl
  neB5 := by decide }
def Tryz.lays160_ren : Go.Shelf.Ren := ⟨fun | 160 => 59 | 232 => 74 | 231 => 73 | 227 => 75 | 234 => 77 | 233 => 76 | 236 => 79 | 235 => 78 | 228 => 90 | 271 => 93 | 151 => 92 | 197 => 91 | 120 => 110 | 152 => 109 | 260 => 108 | 137 => 118 | 119 => 119 | 224 => 71 | 225 => 70 | 217 => 69 | 266 => 88 | n => n, fun | 9 => 9 | 4 => 4 | 3 => 3 | 5 => 5 | 117 => 111 | 116 => 110 | 0 => 0 | 124 => 114 | 21 => 21 | 105 => 127 | 46 => 107 | 119 => 150 | 139 => 153 | 138 => 152 | n => n, fun | 3 => 5 | 4 => 6 | n => n⟩
theorem Tryz.lays160 : Go.Proofs.Lays.n160 Tryz.prog Tryz.lays160_ren := {
  mixed := by kernel_rfl
  f119 := Tryz.func119.trans (congrArg some (by kernel_rfl))
  f120 := Tryz.func110.trans (congrArg some (by kernel_rfl))
  f137 := Tryz.func118.trans (congrArg some (by kernel_rfl))
  f151 := Tryz.func92.trans (congrArg some (by kernel_rfl))
  f152 := Tryz.func109.trans (congrArg some (by kernel_rfl))
  f160 := Tryz.func59.trans (congrArg some (by kernel_rfl))
  f197 := Tryz.func91.trans (congrArg some (by kernel_rfl))
  f217 := Tryz.func69.trans (congrArg some (by kernel_rfl))
  f224 := Tryz.func71.trans (congrArg some (by kernel_rfl))
  f225 := Tryz.func70.trans (congrArg some (by kernel_rfl))
  f227 := Tryz.func75.trans (congrArg some (by kernel_rfl))
  f228 := Tryz.func90.trans (congrArg some (by kernel_rfl))
  f231 := Tryz.func73.trans (congrArg some (by kernel_rfl))
  f232 := Tryz.func74.trans (congrArg some (by kernel_rfl))
  f233 := Tryz.func76.trans (congrArg some (by kernel_rfl))
  f234 := Tryz.func77.trans (congrArg some (by kernel_rfl))
  f235 := Tryz.func78.trans (congrArg some (by kernel_rfl))
  f236 := Tryz.func79.trans (congrArg some (by kernel_rfl))
  f260 := Tryz.func108.trans (congrArg some (by kernel_rfl))
  f266 := Tryz.func88.trans (congrArg some (by kernel_rfl))
  f271 := Tryz.func93.trans (congrArg some (by kernel_rfl))
  t0 := Tryz.underlying0
  a0 := Tryz.isAgg0
  z0 := Tryz.sizeOf0
  v0 := Tryz.zeroValue0
  t3 := Tryz.underlying3
  a3 := Tryz.isAgg3
  z3 := Tryz.sizeOf3
  v3 := Tryz.zeroValue3
  t4 := Tryz.underlying4
  a4 := Tryz.isAgg4
  z4 := Tryz.sizeOf4
  v4 := Tryz.zeroValue4
  t5 := Tryz.underlying5
  a5 := Tryz.isAgg5
  z5 := Tryz.sizeOf5
  v5 := Tryz.zeroValue5
  t9 := Tryz.underlying9
  a9 := Tryz.isAgg9
  z9 := Tryz.sizeOf9
  v9 := Tryz.zeroValue9
  t21 := Tryz.underlying21
  a21 := Tryz.isAgg21
  z21 := Tryz.sizeOf21
  v21 := Tryz.zeroValue21
  t46 := Tryz.underlying107
  a46 := Tryz.isAgg107
  z46 := Tryz.sizeOf107
  v46 := Tryz.zeroValue107
  t105 := Tryz.underlying127
  a105 := Tryz.isAgg127
  z105 := Tryz.sizeOf127
  v105 := Tryz.zeroValue127
  t116 := Tryz.underlying110
  a116 := Tryz.isAgg110
  z116 := Tryz.sizeOf110
  t117 := Tryz.underlying111
  a117 := Tryz.isAgg111
  z117 := Tryz.sizeOf111
  v117 := Tryz.zeroValue111
  t119 := Tryz.underlying150
  a119 := Tryz.isAgg150
  z119 := Tryz.sizeOf150
  t124 := Tryz.underlying114
  a124 := Tryz.isAgg114
  z124 := Tryz.sizeOf114
  v124 := Tryz.zeroValue114
  t138 := Tryz.underlying152
  a138 := Tryz.isAgg152
  z138 := Tryz.sizeOf152
  v138 := Tryz.zeroValue152
  t139 := Tryz.underlying153
  a139 := Tryz.isAgg153
  z139 := Tryz.sizeOf153
  v139 := Tryz.zeroValue153
  g3 := by kernel_rfl
  g4 := by kernel_rfl }
open Go.RowKit in
/-- (*strings.Builder).String: "String returns the accumulated string.": WHATEVER THE BUILDER HOLDS; THE FORM '_k': OVER 'Lib.IsBuilderF' (a builder that 'String()' may have read), AND WITH THE FRAME THAT REACHES ABOVE THE BUILDER: 'Lib.OthersKept': every block that is not b and is no row of uint8's stands as it stood: the iterator of a range among them. (LAID: no walk: one application.) -/
theorem Tryz.Builder_String_any_k (B b : Nat) (l : List UInt8) (w : World) (h : Lib.IsBuilderF 75 5 B b (Lib.byteCells l) w) (hBw : B ≤ w.heap.size) :
    Calls Tryz.prog 39 #[.pointer (some ⟨b, 0, none⟩)] w fun e w' => e = .returned (.string ⟨l.toArray⟩) ∧ (Lib.IsBuilderF 75 5 B b (Lib.byteCells l) w' ∧ Below B w w' ∧ Lib.OthersKept 5 (some b) w w') := Any.Builder_String_any_k Tryz.lays169 Tryz.Builder_Extra_169 B b l w h hBw
def Tryz.lays172_ren : Go.Shelf.Ren := ⟨fun | 172 => 60 | 244 => 80 | 245 => 81 | 247 => 94 | 279 => 95 | 280 => 96 | 281 => 97 | 282 => 98 | 287 => 111 | 316 => 112 | 171 => 44 | 205 => 113 | 321 => 120 | 322 => 121 | 243 => 57 | 246 => 68 | 283 => 84 | 284 => 85 | 285 => 86 | 286 => 87 | 129 => 104 | 317 => 103 | 318 => 105 | 319 => 106 | 320 => 107 | 337 => 116 | 338 => 117 | n => n, fun | 9 => 9 | 3 => 3 | 75 => 77 | 76 => 78 | 4 => 4 | 5 => 5 | 167 => 130 | 37 => 48 | 0 => 0 | 85 => 131 | 2 => 2 | 168 => 133 | 53 => 118 | 175 => 143 | 46 => 107 | 210 => 147 | 127 => 95 | 145 => 158 | 143 => 156 | 21 => 21 | 171 => 117 | 173 => 121 | 212 => 139 | 51 => 123 | 20 => 20 | 213 => 140 | 232 => 159 | 233 => 160 | 80 => 80 | n => n, fun | 15 => 3 | 16 => 4 | 17 => 2 | 18 => 7 | 19 => 8 | n => n⟩
theorem Tryz.lays172 : Go.Proofs.Lays.n172 Tryz.prog Tryz.lays172_ren := {
  mixed := by kernel_rfl
  f129 := Tryz.func104.trans (congrArg some (by kernel_rfl))
  f171 := Tryz.func44.trans (congrArg some (by kernel_rfl))
  f172 := Tryz.func60.trans (congrArg some (by kernel_rfl))
  f205 := Tryz.func113.trans (congrArg some (by kernel_rfl))
  f243 := Tryz.func57.trans (congrArg some (by kernel_rfl))
  f244 := Tryz.func80.trans (congrArg some (by kernel_rfl))
  f245 := Tryz.func81.trans (congrArg some (by kernel_rfl))
  f246 := Tryz.func68.trans (congrArg some (by kernel_rfl))
  f247 := Tryz.func94.trans (congrArg some (by kernel_rfl))
  f279 := Tryz.func95.trans (congrArg some (by kernel_rfl))
  f280 := Tryz.func96.trans (congrArg some (by kernel_rfl))
  f281 := Tryz.func97.trans (congrArg some (by kernel_rfl))
  f282 := Tryz.func98.trans (congrArg some (by kernel_rfl))
  f283 := Tryz.func84.trans (congrArg some (by kernel_rfl))
  f284 := Tryz.func85.trans (congrArg some (by kernel_rfl))
  f285 := Tryz.func86.trans (congrArg some (by kernel_rfl))
  f286 := Tryz.func87.trans (congrArg some (by kernel_rfl))
  f287 := Tryz.func111.trans (congrArg some (by kernel_rfl))
  f316 := Tryz.func112.trans (congrArg some (by kernel_rfl))
  f317 := Tryz.func103.trans (congrArg some (by kernel_rfl))
  f318 := Tryz.func105.trans (congrArg some (by kernel_rfl))
  f319 := Tryz.func106.trans (congrArg some (by kernel_rfl))
  f320 := Tryz.func107.trans (congrArg some (by kernel_rfl))
  f321 := Tryz.func120.trans (congrArg some (by kernel_rfl))
  f322 := Tryz.func121.trans (congrArg some (by kernel_rfl))
  f337 := Tryz.func116.trans (congrArg some (by kernel_rfl))
  f338 := Tryz.func117.trans (congrArg some (by kernel_rfl))
  t0 := Tryz.underlying0
  a0 := Tryz.isAgg0
  z0 := Tryz.sizeOf0
  v0 := Tryz.zeroValue0
  t2 := Tryz.underlying2
  a2 := Tryz.isAgg2
  z2 := Tryz.sizeOf2
  v2 := Tryz.zeroValue2
  t3 := Tryz.underlying3
  a3 := Tryz.isAgg3
  z3 := Tryz.sizeOf3
  v3 := Tryz.zeroValue3
  t4 := Tryz.underlying4
  a4 := Tryz.isAgg4
  z4 := Tryz.sizeOf4
  v4 := Tryz.zeroValue4
  t5 := Tryz.underlying5
  a5 := Tryz.isAgg5
  z5 := Tryz.sizeOf5
  v5 := Tryz.zeroValue5
  t9 := Tryz.underlying9
  a9 := Tryz.isAgg9
  z9 := Tryz.sizeOf9
  v9 := Tryz.zeroValue9
  t20 := Tryz.underlying20
  a20 := Tryz.isAgg20
  z20 := Tryz.sizeOf20
  v20 := Tryz.zeroValue20
  t21 := Tryz.underlying21
  a21 := Tryz.isAgg21
  z21 := Tryz.sizeOf21
  v21 := Tryz.zeroValue21
  t37 := Tryz.underlying48
  a37 := Tryz.isAgg48
  z37 := Tryz.sizeOf48
  v37 := Tryz.zeroValue48
  t46 := Tryz.underlying107
  a46 := Tryz.isAgg107
  z46 := Tryz.sizeOf107
  v46 := Tryz.zeroValue107
  t51 := Tryz.underlying123
  a51 := Tryz.isAgg123
  z51 := Tryz.sizeOf123
  v51 := Tryz.zeroValue123
  t53 := Tryz.underlying118
  a53 := Tryz.isAgg118
  z53 := Tryz.sizeOf118
  v53 := Tryz.zeroValue118
  t75 := Tryz.underlying77
  a75 := Tryz.isAgg77
  z75 := Tryz.sizeOf77
  v75 := Tryz.zeroValue77
  t76 := Tryz.underlying78
  a76 := Tryz.isAgg78
  z76 := Tryz.sizeOf78
  v76 := Tryz.zeroValue78
  t85 := Tryz.underlying131
  a85 := Tryz.isAgg131
  z85 := Tryz.sizeOf131
  v85 := Tryz.zeroValue131
  t127 := Tryz.underlying95
  a127 := Tryz.isAgg95
  z127 := Tryz.sizeOf95
  v127 := Tryz.zeroValue95
  t143 := Tryz.underlying156
  a143 := Tryz.isAgg156
  z143 := Tryz.sizeOf156
  v143 := Tryz.zeroValue156
  t145 := Tryz.underlying158
  a145 := Tryz.isAgg158
  z145 := Tryz.sizeOf158
  v145 := Tryz.zeroValue158
  t167 := Tryz.underlying130
  a167 := Tryz.isAgg130
  z167 := Tryz.sizeOf130
  v167 := Tryz.zeroValue130
  t168 := Tryz.underlying133
  a168 := Tryz.isAgg133
  z168 := Tryz.sizeOf133
  v168 := Tryz.zeroValue133
  t171 := Tryz.underlying117
  a171 := Tryz.isAgg117
  z171 := Tryz.sizeOf117
  v171 := Tryz.zeroValue117
  t173 := Tryz.underlying121
  a173 := Tryz.isAgg121
  z173 := Tryz.sizeOf121
  v173 := Tryz.zeroValue121
  t175 := Tryz.underlying143
  a175 := Tryz.isAgg143
  z175 := Tryz.sizeOf143
  v175 := Tryz.zeroValue143
  t210 := Tryz.underlying147
  a210 := Tryz.isAgg147
  z210 := Tryz.sizeOf147
  v210 := Tryz.zeroValue147
  t212 := Tryz.underlying139
  a212 := Tryz.isAgg139
  z212 := Tryz.sizeOf139
  v212 := Tryz.zeroValue139
  t213 := Tryz.underlying140
  a213 := Tryz.isAgg140
  z213 := Tryz.sizeOf140
  t232 := Tryz.underlying159
  a232 := Tryz.isAgg159
  z232 := Tryz.sizeOf159
  v232 := Tryz.zeroValue159
  t233 := Tryz.underlying160
  a233 := Tryz.isAgg160
  z233 := Tryz.sizeOf160
  v233 := Tryz.zeroValue160
  g15 := by kernel_rfl
  g16 := by kernel_rfl
  g17 := by kernel_rfl
  g18 := by kernel_rfl
  g19 := by kernel_rfl }
open Go.RowKit in
/-- strconv.Atoi: "Atoi is equivalent to ParseInt(s, 10, 0), converted to type int.": AT A DECIMAL NUMERAL OF AT MOST 18 BYTES: its value, and a nil error. The world behind the call: the one new row that the library's '[]byte(s)' lays. (LAID: no walk: one application.) -/
theorem Tryz.strconv_Atoi (s : ByteArray) (n : Int) (hl : s.size ≤ 18) (h : Lib.atoi s.data.toList = some n) (w : World) :
    Calls Tryz.prog 60 #[.string s] w fun e w' => e = .returned (.tuple #[.int .i64 n, .nilIface]) ∧ ∃ t, w' = Lib.bytesWorld w 5 t := Any.strconv_Atoi Tryz.lays172 s n hl h w
def Tryz.laysM171_ren : Go.Shelf.Ren := ⟨fun | 171 => 44 | 243 => 57 | 246 => 68 | 283 => 84 | 284 => 85 | 285 => 86 | 286 => 87 | 129 => 104 | 317 => 103 | 318 => 105 | 319 => 106 | 320 => 107 | 337 => 116 | 338 => 117 | n => n, fun | 3 => 3 | 9 => 9 | 2 => 2 | 4 => 4 | 171 => 117 | 0 => 0 | 53 => 118 | 37 => 48 | 5 => 5 | 173 => 121 | 212 => 139 | 51 => 123 | 20 => 20 | 213 => 140 | 46 => 107 | 232 => 159 | 233 => 160 | n => n, fun | 17 => 2 | 18 => 7 | 19 => 8 | n => n⟩
theorem Tryz.laysM171 : Go.Proofs.LaysM.n171 Tryz.prog Tryz.laysM171_ren := {
  mixed := by kernel_rfl
  f129 := Tryz.func104.trans (congrArg some (by kernel_rfl))
  f171 := Tryz.func44.trans (congrArg some (by kernel_rfl))
  f243 := Tryz.func57.trans (congrArg some (by kernel_rfl))
  f246 := Tryz.func68.trans (congrArg some (by kernel_rfl))
  f283 := Tryz.func84.trans (congrArg some (by kernel_rfl))
  f284 := Tryz.func85.trans (congrArg some (by kernel_rfl))
  f285 := Tryz.func86.trans (congrArg some (by kernel_rfl))
  f286 := Tryz.func87.trans (congrArg some (by kernel_rfl))
  f317 := Tryz.func103.trans (congrArg some (by kernel_rfl))
  f318 := Tryz.func105.trans (congrArg some (by kernel_rfl))
  f319 := Tryz.func106.trans (congrArg some (by kernel_rfl))
  f320 := Tryz.func107.trans (congrArg some (by kernel_rfl))
  f337 := Tryz.func116.trans (congrArg some (by kernel_rfl))
  f338 := Tryz.func117.trans (congrArg some (by kernel_rfl))
  t0 := Tryz.underlying0
  a0 := Tryz.isAgg0
  z0 := Tryz.sizeOf0
  v0 := Tryz.zeroValue0
  t2 := Tryz.underlying2
  a2 := Tryz.isAgg2
  z2 := Tryz.sizeOf2
  v2 := Tryz.zeroValue2
  t3 := Tryz.underlying3
  a3 := Tryz.isAgg3
  z3 := Tryz.sizeOf3
  v3 := Tryz.zeroValue3
  t4 := Tryz.underlying4
  a4 := Tryz.isAgg4
  z4 := Tryz.sizeOf4
  v4 := Tryz.zeroValue4
  t5 := Tryz.underlying5
  a5 := Tryz.isAgg5
  z5 := Tryz.sizeOf5
  v5 := Tryz.zeroValue5
  t9 := Tryz.underlying9
  a9 := Tryz.isAgg9
  z9 := Tryz.sizeOf9
  v9 := Tryz.zeroValue9
  t20 := Tryz.underlying20
  a20 := Tryz.isAgg20
  z20 := Tryz.sizeOf20
  v20 := Tryz.zeroValue20
  t37 := Tryz.underlying48
  a37 := Tryz.isAgg48
  z37 := Tryz.sizeOf48
  v37 := Tryz.zeroValue48
  t46 := Tryz.underlying107
  a46 := Tryz.isAgg107
  z46 := Tryz.sizeOf107
  v46 := Tryz.zeroValue107
  t51 := Tryz.underlying123
  a51 := Tryz.isAgg123
  z51 := Tryz.sizeOf123
  v51 := Tryz.zeroValue123
  t53 := Tryz.underlying118
  a53 := Tryz.isAgg118
  z53 := Tryz.sizeOf118
  v53 := Tryz.zeroValue118
  t171 := Tryz.underlying117
  a171 := Tryz.isAgg117
  z171 := Tryz.sizeOf117
  v171 := Tryz.zeroValue117
  t173 := Tryz.underlying121
  a173 := Tryz.isAgg121
  z173 := Tryz.sizeOf121
  v173 := Tryz.zeroValue121
  t212 := Tryz.underlying139
  a212 := Tryz.isAgg139
  z212 := Tryz.sizeOf139
  v212 := Tryz.zeroValue139
  t213 := Tryz.underlying140
  a213 := Tryz.isAgg140
  z213 := Tryz.sizeOf140
  t232 := Tryz.underlying159
  a232 := Tryz.isAgg159
  z232 := Tryz.sizeOf159
  v232 := Tryz.zeroValue159
  t233 := Tryz.underlying160
  a233 := Tryz.isAgg160
  z233 := Tryz.sizeOf160
  v233 := Tryz.zeroValue160
  g17 := by kernel_rfl
  g18 := by kernel_rfl
  g19 := by kernel_rfl
  i0 := by kernel_rfl
  i2 := by kernel_rfl
  i3 := by kernel_rfl
  i4 := by kernel_rfl
  i5 := by kernel_rfl
  i9 := by kernel_rfl
  i20 := by kernel_rfl
  i37 := by kernel_rfl
  i46 := by kernel_rfl
  i51 := by kernel_rfl
  i53 := by kernel_rfl
  i171 := by kernel_rfl
  i173 := by kernel_rfl
  i212 := by kernel_rfl
  i232 := by kernel_rfl
  i233 := by kernel_rfl
  m17 := by kernel_rfl
  m18 := by kernel_rfl
  m19 := by kernel_rfl }
open Go.RowKit Go.Sort Go.Lib in
/-- strconv.Itoa: "Itoa is equivalent to FormatInt(int64(i), 10).": i's DECIMAL NUMERAL ('Lib.itoa': a '-' where i is negative, then the digits), FOR EVERY int. The world behind the call: the world before it, new blocks behind the heap (the library's 'var a [24]byte'), draws. (LAID: no walk: one application.) -/
theorem Tryz.strconv_Itoa (n : Int) (h0 : -9223372036854775808 ≤ n) (h1 : n ≤ 9223372036854775807) (w : World) (htab : Lib.TabIs Tryz.prog w "internal/strconv.uint64pow10" .u64 Lib.pow10Tab) :
    Calls Tryz.prog 44 #[.int .i64 n] w fun e w' => e = .returned (.string ⟨(Lib.itoa n).toArray⟩) ∧ ∃ k os, w' = grow (w.drewN k) os := Any.strconv_Itoa Tryz.laysM171 n h0 h1 w htab
def Tryz.lays145_ren : Go.Shelf.Ren := ⟨fun | 145 => 35 | 220 => 47 | 219 => 58 | 217 => 69 | 225 => 70 | 224 => 71 | 267 => 72 | 266 => 88 | 314 => 89 | n => n, fun | 9 => 9 | 4 => 4 | 59 => 69 | 3 => 3 | 5 => 5 | 46 => 107 | 146 => 124 | 51 => 123 | n => n, fun | 1 => 1 | n => n⟩
theorem Tryz.lays145 : Go.Proofs.Lays.n145 Tryz.prog Tryz.lays145_ren := {
  mixed := by kernel_rfl
  f145 := Tryz.func35.trans (congrArg some (by kernel_rfl))
  f217 := Tryz.func69.trans (congrArg some (by kernel_rfl))
  f219 := Tryz.func58.trans (congrArg some (by kernel_rfl))
  f220 := Tryz.func47.trans (congrArg some (by kernel_rfl))
  f224 := Tryz.func71.trans (congrArg some (by kernel_rfl))
  f225 := Tryz.func70.trans (congrArg some (by kernel_rfl))
  f266 := Tryz.func88.trans (congrArg some (by kernel_rfl))
  f267 := Tryz.func72.trans (congrArg some (by kernel_rfl))
  f314 := Tryz.func89.trans (congrArg some (by kernel_rfl))
  t3 := Tryz.underlying3
  a3 := Tryz.isAgg3
  z3 := Tryz.sizeOf3
  v3 := Tryz.zeroValue3
  t4 := Tryz.underlying4
  a4 := Tryz.isAgg4
  z4 := Tryz.sizeOf4
  v4 := Tryz.zeroValue4
  t5 := Tryz.underlying5
  a5 := Tryz.isAgg5
  z5 := Tryz.sizeOf5
  v5 := Tryz.zeroValue5
  t9 := Tryz.underlying9
  a9 := Tryz.isAgg9
  z9 := Tryz.sizeOf9
  v9 := Tryz.zeroValue9
  t46 := Tryz.underlying107
  a46 := Tryz.isAgg107
  z46 := Tryz.sizeOf107
  v46 := Tryz.zeroValue107
  t51 := Tryz.underlying123
  a51 := Tryz.isAgg123
  z51 := Tryz.sizeOf123
  v51 := Tryz.zeroValue123
  t59 := Tryz.underlying69
  a59 := Tryz.isAgg69
  z59 := Tryz.sizeOf69
  v59 := Tryz.zeroValue69
  t146 := Tryz.underlying124
  a146 := Tryz.isAgg124
  z146 := Tryz.sizeOf124
  v146 := Tryz.zeroValue124
  g1 := by kernel_rfl }
open Go.RowKit Go.Lib in
/-- strings.Cut: "Cut slices s around the first instance of sep, returning the text before and after sep. The found result reports whether sep appears in s. If sep does not appear in s, cut returns s, "", false.": IT RETURNS 'Lib.cut s sep'; the world is as it was but for the count of draws. (LAID: no walk: one application.) -/
theorem Tryz.strings_Cut (s sep : ByteArray) (m : Int) (w : World) (hs : s.size < 4294967281) (hm : w.cell? ⟨1, 0, none⟩ = some (.int .i64 m)) :
    Calls Tryz.prog 35 #[.string s, .string sep] w fun e w' => e = .returned (.tuple #[.string ⟨(Lib.cut s.data.toList sep.data.toList).1.toArray⟩, .string ⟨(Lib.cut s.data.toList sep.data.toList).2.1.toArray⟩, .bool (Lib.cut s.data.toList sep.data.toList).2.2]) ∧ ∃ n, w' = w.drewN n := Any.strings_Cut Tryz.lays145 s sep m w hs hm
def Tryz.lays102_ren : Go.Shelf.Ren := ⟨fun | 102 => 62 | 209 => 83 | 207 => 102 | n => n, fun | 9 => 9 | 4 => 4 | 3 => 3 | n => n, fun | n => n⟩
theorem Tryz.lays102 : Go.Proofs.Lays.n102 Tryz.prog Tryz.lays102_ren := {
  mixed := by kernel_rfl
  f102 := Tryz.func62.trans (congrArg some (by kernel_rfl))
  f207 := Tryz.func102.trans (congrArg some (by kernel_rfl))
  f209 := Tryz.func83.trans (congrArg some (by kernel_rfl))
  t3 := Tryz.underlying3
  a3 := Tryz.isAgg3
  z3 := Tryz.sizeOf3
  v3 := Tryz.zeroValue3
  t4 := Tryz.underlying4
  a4 := Tryz.isAgg4
  z4 := Tryz.sizeOf4
  v4 := Tryz.zeroValue4
  t9 := Tryz.underlying9
  a9 := Tryz.isAgg9
  z9 := Tryz.sizeOf9
  v9 := Tryz.zeroValue9 }
open Go.RowKit Go.Lib in
/-- strings.TrimSuffix: "TrimSuffix returns s without the provided trailing suffix string. If s doesn't end with suffix, s is returned unchanged.": IT RETURNS 'Lib.trimSuffix s suffix'; the world is as it was. (LAID: no walk: one application.) -/
theorem Tryz.strings_TrimSuffix (s p : ByteArray) (w : World) (hs : s.size ≤ 9223372036854775807) :
    Calls Tryz.prog 62 #[.string s, .string p] w fun e w' => e = .returned (.string ⟨(Lib.trimSuffix s.data.toList p.data.toList).toArray⟩) ∧ w' = w := Any.strings_TrimSuffix Tryz.lays102 s p w hs
def Tryz.lays146_ren : Go.Shelf.Ren := ⟨fun | 146 => 61 | 221 => 82 | 268 => 99 | 138 => 100 | 143 => 101 | 195 => 114 | 197 => 91 | 218 => 115 | 219 => 58 | 260 => 108 | 217 => 69 | 225 => 70 | 224 => 71 | 267 => 72 | 266 => 88 | 314 => 89 | n => n, fun | 9 => 9 | 31 => 55 | 3 => 3 | 4 => 4 | 0 => 0 | 105 => 127 | 21 => 21 | 5 => 5 | 46 => 107 | 119 => 150 | 139 => 153 | 138 => 152 | 146 => 124 | 51 => 123 | n => n, fun | 1 => 1 | 3 => 5 | 4 => 6 | n => n⟩
theorem Tryz.lays146 : Go.Proofs.Lays.n146 Tryz.prog Tryz.lays146_ren := {
  mixed := by kernel_rfl
  f138 := Tryz.func100.trans (congrArg some (by kernel_rfl))
  f143 := Tryz.func101.trans (congrArg some (by kernel_rfl))
  f146 := Tryz.func61.trans (congrArg some (by kernel_rfl))
  f195 := Tryz.func114.trans (congrArg some (by kernel_rfl))
  f197 := Tryz.func91.trans (congrArg some (by kernel_rfl))
  f217 := Tryz.func69.trans (congrArg some (by kernel_rfl))
  f218 := Tryz.func115.trans (congrArg some (by kernel_rfl))
  f219 := Tryz.func58.trans (congrArg some (by kernel_rfl))
  f221 := Tryz.func82.trans (congrArg some (by kernel_rfl))
  f224 := Tryz.func71.trans (congrArg some (by kernel_rfl))
  f225 := Tryz.func70.trans (congrArg some (by kernel_rfl))
  f260 := Tryz.func108.trans (congrArg some (by kernel_rfl))
  f266 := Tryz.func88.trans (congrArg some (by kernel_rfl))
  f267 := Tryz.func72.trans (congrArg some (by kernel_rfl))
  f268 := Tryz.func99.trans (congrArg some (by kernel_rfl))
  f314 := Tryz.func89.trans (congrArg some (by kernel_rfl))
  t0 := Tryz.underlying0
  a0 := Tryz.isAgg0
  z0 := Tryz.sizeOf0
  v0 := Tryz.zeroValue0
  t3 := Tryz.underlying3
  a3 := Tryz.isAgg3
  z3 := Tryz.sizeOf3
  v3 := Tryz.zeroValue3
  t4 := Tryz.underlying4
  a4 := Tryz.isAgg4
  z4 := Tryz.sizeOf4
  v4 := Tryz.zeroValue4
  t5 := Tryz.underlying5
  a5 := Tryz.isAgg5
  z5 := Tryz.sizeOf5
  v5 := Tryz.zeroValue5
  t9 := Tryz.underlying9
  a9 := Tryz.isAgg9
  z9 := Tryz.sizeOf9
  v9 := Tryz.zeroValue9
  t21 := Tryz.underlying21
  a21 := Tryz.isAgg21
  z21 := Tryz.sizeOf21
  v21 := Tryz.zeroValue21
  t31 := Tryz.underlying55
  a31 := Tryz.isAgg55
  z31 := Tryz.sizeOf55
  v31 := Tryz.zeroValue55
  t46 := Tryz.underlying107
  a46 := Tryz.isAgg107
  z46 := Tryz.sizeOf107
  v46 := Tryz.zeroValue107
  t51 := Tryz.underlying123
  a51 := Tryz.isAgg123
  z51 := Tryz.sizeOf123
  v51 := Tryz.zeroValue123
  t105 := Tryz.underlying127
  a105 := Tryz.isAgg127
  z105 := Tryz.sizeOf127
  v105 := Tryz.zeroValue127
  t119 := Tryz.underlying150
  a119 := Tryz.isAgg150
  z119 := Tryz.sizeOf150
  t138 := Tryz.underlying152
  a138 := Tryz.isAgg152
  z138 := Tryz.sizeOf152
  v138 := Tryz.zeroValue152
  t139 := Tryz.underlying153
  a139 := Tryz.isAgg153
  z139 := Tryz.sizeOf153
  v139 := Tryz.zeroValue153
  t146 := Tryz.underlying124
  a146 := Tryz.isAgg124
  z146 := Tryz.sizeOf124
  v146 := Tryz.zeroValue124
  g1 := by kernel_rfl
  g3 := by kernel_rfl
  g4 := by kernel_rfl }
open Go.RowKit Go.Lib in
/-- strings.Split. (LAID: no walk: one application.) -/
theorem Tryz.strings_Split (s sep : ByteArray) (m : Int) (w : World) (hs : s.size < 4294967281) (hm : w.cell? ⟨1, 0, none⟩ = some (.int .i64 m)) (h1 : 1 ≤ sep.size) :
    Calls Tryz.prog 61 #[.string s, .string sep] w fun e w' =>
      e = .returned (.slice (some ⟨w.heap.size, 0, none⟩) (Lib.countB s sep + 1) (Lib.countB s sep + 1)) ∧ w' = w.alloc (.cells ((Lib.splitB sep 0 (Lib.countB s sep) s).map Value.string).toArray 9) := Any.strings_Split Tryz.lays146 (by kernel_rfl) s sep m w hs hm h1
end Go.Proofs

namespace Go.Proofs.YtpaoeeamlinaaaaGreatDoor
open Go

structure Stp where
  kind : Nat
  host : Int
  srv : Int
  ver : Int
deriving DecidableEq
structure Rec where
  kind : Nat
  place : Int
  id : Int
  lease : Int
  ans : Nat
  steps : List Stp
  after : List (List Int)
deriving DecidableEq
def Rec.none : Rec := ⟨0, 0, 0, 0, 0, [], []⟩

/-! sums -/
/-- What Sum's loop does from place i on. -/
def sumGo : Nat → Nat → List UInt8 → Nat
  | _, n, [] => n
  | i, n, c :: l => sumGo (i + 1) ((n + (i + 1) % 9973 * c.toNat) % 9973) l
def sumT (l : List UInt8) : Nat := sumGo 0 0 l
/-- The sum, not reduced. -/
def sumW : Nat → List UInt8 → Nat
  | _, [] => 0
  | i, c :: l => (i + 1) % 9973 * c.toNat + sumW (i + 1) l
theorem sumGo_is : ∀ (l : List UInt8) (i n : Nat), n < 9973 → sumGo i n l = (n + sumW i l) % 9973
  | [], i, n, h => by simp [sumGo, sumW, Nat.mod_eq_of_lt h]
  | c :: l, i, n, h => by
    unfold sumGo sumW
    rw [sumGo_is l (i + 1) _ (Nat.mod_lt _ (by decide)), Nat.mod_add_mod, Nat.add_assoc]
theorem sumT_is (l : List UInt8) : sumT l = sumW 0 l % 9973 := by unfold sumT; rw [sumGo_is l 0 0 (by decide), Nat.zero_add]
theorem sumT_lt (l : List UInt8) : sumT l < 9973 := by rw [sumT_is]; exact Nat.mod_lt _ (by decide)
theorem sumW_app : ∀ (l m : List UInt8) (i : Nat), sumW i (l ++ m) = sumW i l + sumW (i + l.length) m
  | [], m, i => by simp [sumW]
  | c :: l, m, i => by
    simp only [List.cons_append, sumW, List.length_cons]
    rw [sumW_app l m (i + 1), show i + 1 + l.length = i + (l.length + 1) by omega]
    omega
theorem cop9973 : ∀ d, d < 256 → 0 < d → Nat.gcd 9973 d = 1 := by decide +kernel
/-- Another byte, another sum. -/
theorem sumT_other {l m : List UInt8} {c d : UInt8} (hl : l.length < 9972) (hne : c ≠ d) : sumT (l ++ c :: m) ≠ sumT (l ++ d :: m) := by
  rw [sumT_is, sumT_is, sumW_app, sumW_app]
  simp only [sumW, Nat.zero_add]
  rw [Nat.mod_eq_of_lt (show l.length + 1 < 9973 by omega)]
  intro h
  generalize sumW (l.length + 1) m = y at h
  generalize sumW 0 l = x at h
  have hc : c.toNat < 256 := c.toNat_lt
  have hd : d.toNat < 256 := d.toNat_lt
  have hn : c.toNat ≠ d.toNat := fun e => hne (UInt8.toNat_inj.1 e)
  generalize c.toNat = p at *
  generalize d.toNat = q at *
  have key : ∀ p q k : Nat, p < q → q < 256 → 0 < k → k < 9973 → (x + (k * p + y)) % 9973 = (x + (k * q + y)) % 9973 → False := by
    intro p q k h1 h2 h3 h4 h5
    have h0 := Nat.mul_le_mul_left k (Nat.le_of_lt h1)
    have h7 : k * q - k * p = k * (q - p) := (Nat.mul_sub k q p).symm
    have h6 : 9973 ∣ k * (q - p) := by
      rw [← h7]
      refine ⟨(x + (k * q + y)) / 9973 - (x + (k * p + y)) / 9973, ?_⟩
      omega
    have hcop : Nat.Coprime 9973 (q - p) := cop9973 (q - p) (by omega) (by omega)
    have h8 := hcop.dvd_of_dvd_mul_right h6
    have := Nat.le_of_dvd h3 h8
    omega
  rcases Nat.lt_or_gt_of_ne hn with g | g
  · exact key p q (l.length + 1) g hd (by omega) (by omega) h
  · exact key q p (l.length + 1) g hc (by omega) (by omega) h.symm

/-! numbers -/
abbrev dd (n : Nat) : List UInt8 := Lib.decDigits n
def isDig (c : UInt8) : Bool := decide (48 ≤ c.toNat ∧ c.toNat ≤ 57)
def valD (l : List UInt8) : Nat := l.foldl (fun n c => 10 * n + (c.toNat - 48)) 0
/-- The number that a word is. -/
def numF (w : List UInt8) : Option Nat := if w = [] ∨ 7 < w.length ∨ (w.head? = some 48 ∧ 1 < w.length) ∨ w.all isDig = false then none else some (valD w)
theorem valD_snoc (l : List UInt8) (c : UInt8) : valD (l ++ [c]) = 10 * valD l + (c.toNat - 48) := by simp [valD, List.foldl_append]
theorem ofN_toNat {x : Nat} (h : x < 256) : (UInt8.ofNat x).toNat = x := by simp [Nat.mod_eq_of_lt h]
theorem dd_small {n : Nat} (h : n < 10) : dd n = [UInt8.ofNat (48 + n)] := by unfold dd; rw [Lib.decDigits, dif_pos h]
theorem dd_big {n : Nat} (h : ¬ n < 10) : dd n = dd (n / 10) ++ [UInt8.ofNat (48 + n % 10)] := by unfold dd; rw [Lib.decDigits, dif_neg h]
theorem dd_all (n : Nat) : (dd n).all isDig = true := by
  induction n using Nat.strongRecOn with
  | _ n ih =>
    by_cases h : n < 10
    · rw [dd_small h]; simp [isDig]; omega
    · rw [dd_big h, List.all_append, ih (n / 10) (by omega)]
      simp [isDig]; omega
theorem dd_ne (n : Nat) : dd n ≠ [] := by
  by_cases h : n < 10
  · rw [dd_small h]; simp
  · rw [dd_big h]; simp
theorem dd_val (n : Nat) : valD (dd n) = n := by
  induction n using Nat.strongRecOn with
  | _ n ih =>
    by_cases h : n < 10
    · rw [dd_small h]
      show 10 * 0 + ((UInt8.ofNat (48 + n)).toNat - 48) = n
      rw [ofN_toNat (by omega)]; omega
    · rw [dd_big h, valD_snoc, ih (n / 10) (by omega), ofN_toNat (by omega)]; omega
theorem head_app {l m : List UInt8} (h : l ≠ []) : (l ++ m).head? = l.head? := by cases l with
  | nil => exact absurd rfl h
  | cons c l => rfl
theorem dd_head (n : Nat) (h : 0 < n) : (dd n).head? ≠ some 48 := by
  induction n using Nat.strongRecOn with
  | _ n ih =>
    by_cases h1 : n < 10
    · rw [dd_small h1]
      simp only [List.head?_cons, ne_eq, Option.some.injEq]
      intro e
      have := congrArg UInt8.toNat e
      rw [ofN_toNat (by omega)] at this
      simp at this; omega
    · rw [dd_big h1, head_app (dd_ne _)]
      exact ih (n / 10) (by omega) (by omega)
theorem dd_len : ∀ (k n : Nat), 0 < k → n < 10 ^ k → (dd n).length ≤ k
  | 0, n, h, _ => absurd h (by omega)
  | k + 1, n, _, h => by
    by_cases h1 : n < 10
    · rw [dd_small h1]; simp
    · rw [dd_big h1, List.length_append, List.length_singleton]
      have hk : 0 < k := by
        rcases Nat.eq_zero_or_pos k with e | e
        · subst e; simp at h; omega
        · exact e
      have := dd_len k (n / 10) hk (by rw [Nat.pow_succ] at h; omega)
      omega
theorem numF_dd {n : Nat} (h : n < 10000000) : numF (dd n) = some n := by
  unfold numF
  rw [if_neg, dd_val]
  rintro (h1 | h1 | ⟨h1, h2⟩ | h1)
  · exact dd_ne n h1
  · have := dd_len 7 n (by omega) h; omega
  · rcases Nat.eq_zero_or_pos n with e | e
    · subst e; rw [dd_small (by omega)] at h2; simp at h2
    · exact dd_head n e h1
  · rw [dd_all] at h1; cases h1
theorem dd_of_val : ∀ (k : Nat) (w : List UInt8), w.length = k → w ≠ [] → w.all isDig = true → (w.head? ≠ some 48 ∨ w.length ≤ 1) → dd (valD w) = w
  | 0, w, h, hn, _, _ => absurd (List.length_eq_zero_iff.1 h) hn
  | k + 1, w, h, hn, ha, hz => by
    obtain ⟨l, c, rfl⟩ : ∃ l c, w = l ++ [c] := ⟨w.dropLast, w.getLast hn, (List.dropLast_concat_getLast hn).symm⟩
    rw [List.all_append] at ha
    simp only [Bool.and_eq_true, List.all_cons, List.all_nil, Bool.and_true] at ha
    have hc : 48 ≤ c.toNat ∧ c.toNat ≤ 57 := by have := ha.2; unfold isDig at this; simpa using this
    have e48 : UInt8.ofNat (48 + (c.toNat - 48)) = c := by rw [show 48 + (c.toNat - 48) = c.toNat by omega]; exact UInt8.ofNat_toNat
    rw [valD_snoc]
    by_cases hl : l = []
    · subst hl
      rw [show valD [] = 0 from rfl, Nat.mul_zero, Nat.zero_add, dd_small (by omega), e48]; rfl
    · have hl1 : 0 < l.length := List.length_pos_iff.2 hl
      have hh : l.head? ≠ some 48 := by
        rcases hz with hz | hz
        · rwa [head_app hl] at hz
        · rw [List.length_append, List.length_singleton] at hz; omega
      have ih := dd_of_val k l (by rw [List.length_append, List.length_singleton] at h; omega) hl ha.1 (.inl hh)
      have hv : 0 < valD l := by
        rcases Nat.eq_zero_or_pos (valD l) with e | e
        · rw [e, dd_small (by omega)] at ih
          exact absurd (by rw [← ih]; rfl) hh
        · exact e
      rw [dd_big (by omega), show (10 * valD l + (c.toNat - 48)) / 10 = valD l by omega, ih, show (10 * valD l + (c.toNat - 48)) % 10 = c.toNat - 48 by omega, e48]
theorem numF_some {w : List UInt8} {n : Nat} (h : numF w = some n) : w = dd n ∧ w.length ≤ 7 := by
  unfold numF at h
  split at h
  · cases h
  · rename_i hc
    obtain rfl := Option.some.inj h
    have h1 : w ≠ [] := fun e => hc (.inl e)
    have h2 : ¬ 7 < w.length := fun e => hc (.inr (.inl e))
    have h3 : w.all isDig = true := by
      cases e : w.all isDig with
      | true => rfl
      | false => exact absurd (.inr (.inr (.inr e))) hc
    refine ⟨(dd_of_val _ w rfl h1 h3 ?_).symm, by omega⟩
    by_cases h4 : w.head? = some 48
    · right
      exact Nat.le_of_not_lt fun e => hc (.inr (.inr (.inl ⟨h4, e⟩)))
    · exact .inl h4
theorem dd_lt {w : List UInt8} {n : Nat} (h : numF w = some n) : n < 10000000 := by
  obtain ⟨rfl, hl⟩ := numF_some h
  have h2 := Lib.lt_pow_nDigits n
  have h3 : (dd n).length = Lib.nDigits n := Lib.decDigits_length n
  have h4 : 10 ^ Lib.nDigits n ≤ 10 ^ 7 := Nat.pow_le_pow_right (by omega) (by omega)
  have h5 : (10 : Nat) ^ 7 = 10000000 := rfl
  omega
end Go.Proofs.YtpaoeeamlinaaaaGreatDoor

namespace Go.Proofs.YtpaoeeamlinaaaaGreatDoor
open Go

def wordK (k : Nat) : List UInt8 := match k with
  | 1 => [112, 108, 97, 110]
  | 2 => [105, 110, 116, 101, 110, 116]
  | 3 => [97, 110, 115, 119, 101, 114]
  | 4 => [115, 116, 111, 112]
  | 5 => [101, 110, 100]
  | _ => []
def stepL (s : Stp) : List Int := [(s.kind : Int), s.host, s.srv, s.ver]
def lenL (a : List Int) : List Int := (a.length : Int) :: a
def planned (ss : List Stp) (az : List (List Int)) : List Int := (ss.length : Int) :: (ss.flatMap stepL ++ az.flatMap lenL)
/-- The numbers of a record's line. -/
def numsOf (r : Rec) : List Int := match r.kind with
  | 1 => planned r.steps r.after
  | 2 => [r.place, r.id, r.lease]
  | 3 => [r.id, (r.ans : Int)]
  | _ => []
/-- The record has no other fields than its kind, and a plan that is not too long. -/
def Bare (r : Rec) : Prop := match r.kind with
  | 1 => (r.place = 0 ∧ r.id = 0 ∧ r.lease = 0 ∧ r.ans = 0) ∧ r.steps.length ≤ 12 ∧ r.after.length = r.steps.length ∧ ∀ a ∈ r.after, a.length ≤ 12
  | 2 => r.steps = [] ∧ r.after = [] ∧ r.ans = 0
  | 3 => r.steps = [] ∧ r.after = [] ∧ r.place = 0 ∧ r.lease = 0
  | 4 => r.steps = [] ∧ r.after = [] ∧ r.place = 0 ∧ r.id = 0 ∧ r.lease = 0 ∧ r.ans = 0
  | 5 => r.steps = [] ∧ r.after = [] ∧ r.place = 0 ∧ r.id = 0 ∧ r.lease = 0 ∧ r.ans = 0
  | _ => False
instance (r : Rec) : Decidable (Bare r) := by unfold Bare; split <;> infer_instance
def InR (z : Int) : Prop := 0 ≤ z ∧ z ≤ 1000000
instance (z : Int) : Decidable (InR z) := by unfold InR; infer_instance
/-- The record's small numbers are small. -/
def Small8 (r : Rec) : Prop := r.ans < 256 ∧ ∀ s ∈ r.steps, s.kind < 256
instance (r : Rec) : Decidable (Small8 r) := by unfold Small8; infer_instance
/-- The record can be written. -/
def CanW (r : Rec) : Prop := (Bare r ∧ Small8 r) ∧ ∀ z ∈ numsOf r, InR z
instance (r : Rec) : Decidable (CanW r) := by unfold CanW; infer_instance
def spaced (l : List Int) : List UInt8 := l.flatMap fun z => 32 :: dd z.toNat
def frontT (r : Rec) : List UInt8 := wordK r.kind ++ (spaced (numsOf r) ++ [32])
def lineT (r : Rec) : List UInt8 := frontT r ++ 35 :: (dd (sumT (frontT r)) ++ [10])
/-- What Line returns. -/
def lineF (r : Rec) : List UInt8 × Int := if CanW r then (lineT r, 0) else ([], 1)

/-! the words between spaces -/
def fld : List UInt8 → List (List UInt8)
  | [] => [[]]
  | c :: l => if c = 32 then [] :: fld l else match fld l with
    | [] => [[c]]
    | w :: ws => (c :: w) :: ws
theorem fld_app {w l : List UInt8} (h : ∀ c ∈ w, c ≠ 32) : fld (w ++ 32 :: l) = w :: fld l := by
  induction w with
  | nil => simp [fld]
  | cons c w ih =>
    have hc : c ≠ 32 := h c (by simp)
    rw [List.cons_append, fld, if_neg hc, ih (fun d hd => h d (by simp [hd]))]
theorem dd_mem {n : Nat} {c : UInt8} (h : c ∈ dd n) : 48 ≤ c.toNat ∧ c.toNat ≤ 57 := by
  have h1 := dd_all n
  rw [List.all_eq_true] at h1
  have := h1 c h
  unfold isDig at this
  simpa using this
theorem dd_no {n : Nat} {c : UInt8} (h : c ∈ dd n) (k : UInt8) (hk : k.toNat < 48) : c ≠ k := fun e => by
  have := (dd_mem h).1
  rw [e] at this
  omega
theorem word_all (k : Nat) : (wordK k).all (fun c => decide (97 ≤ c.toNat)) = true := by unfold wordK; split <;> rfl
theorem word_mem {k : Nat} {c : UInt8} (h : c ∈ wordK k) : 97 ≤ c.toNat := by
  have := List.all_eq_true.1 (word_all k) c h
  simpa using this
theorem word_no {k : Nat} {c : UInt8} (h : c ∈ wordK k) (x : UInt8) (hx : x.toNat < 97) : c ≠ x := fun e => by
  have := word_mem h
  rw [e] at this
  omega
theorem fld_nums : ∀ l : List Int, fld (spaced l ++ [32]) = [] :: (l.map (fun z => dd z.toNat) ++ [[]])
  | [] => rfl
  | z :: l => by
    have e : spaced (z :: l) ++ [32] = 32 :: (dd z.toNat ++ (spaced l ++ [32])) := by simp [spaced]
    have hne : ∃ m, spaced l ++ [32] = 32 :: m := by
      cases l with
      | nil => exact ⟨[], rfl⟩
      | cons y l => exact ⟨dd y.toNat ++ (spaced l ++ [32]), by simp [spaced]⟩
    obtain ⟨m, hm⟩ := hne
    have ih := fld_nums l
    rw [e, fld, if_pos rfl, hm, fld_app (fun c hc => dd_no hc 32 (by decide))]
    rw [hm, fld, if_pos rfl] at ih
    rw [List.map_cons, List.cons_append, (List.cons.inj ih).2]
/-- The words of the front of a line. -/
theorem fld_front (r : Rec) : fld (frontT r) = wordK r.kind :: ((numsOf r).map (fun z => dd z.toNat) ++ [[]]) := by
  have h := fld_nums (numsOf r)
  have hne : ∃ m, spaced (numsOf r) ++ [32] = 32 :: m := by
    cases numsOf r with
    | nil => exact ⟨[], rfl⟩
    | cons y l => exact ⟨dd y.toNat ++ (spaced l ++ [32]), by simp [spaced]⟩
  obtain ⟨m, hm⟩ := hne
  unfold frontT
  rw [hm, fld_app (fun c hc => word_no hc 32 (by decide))]
  rw [hm, fld, if_pos rfl] at h
  rw [(List.cons.inj h).2]
/-- The bytes of the front. -/
theorem front_mem {r : Rec} {c : UInt8} (h : c ∈ frontT r) : c = 32 ∨ (48 ≤ c.toNat ∧ c.toNat ≤ 57) ∨ 97 ≤ c.toNat := by
  unfold frontT spaced at h
  simp only [List.mem_append, List.mem_flatMap, List.mem_cons, List.not_mem_nil, or_false] at h
  rcases h with h | ⟨z, _, h | h⟩ | h
  · exact .inr (.inr (word_mem h))
  · exact .inl h
  · exact .inr (.inl (dd_mem h))
  · exact .inl h
theorem front_no {r : Rec} {c : UInt8} (h : c ∈ frontT r) : c ≠ 35 ∧ c ≠ 10 := by
  rcases front_mem h with h | h | h
  · subst h; decide
  · exact ⟨fun e => by subst e; simp at h, fun e => by subst e; simp at h⟩
  · exact ⟨fun e => by subst e; simp at h, fun e => by subst e; simp at h⟩
/-- A list that ends ahead of the first c. -/
theorem upto_inj {c : UInt8} : ∀ {l m a b : List UInt8}, (∀ x ∈ l, x ≠ c) → (∀ x ∈ m, x ≠ c) → l ++ c :: a = m ++ c :: b → l = m ∧ a = b
  | [], [], a, b, _, _, h => ⟨rfl, (List.cons.inj h).2⟩
  | [], y :: m, a, b, _, hm, h => by
    rw [List.nil_append, List.cons_append] at h
    exact absurd (List.cons.inj h).1.symm (hm y (by simp))
  | x :: l, [], a, b, hl, _, h => by
    rw [List.nil_append, List.cons_append] at h
    exact absurd (List.cons.inj h).1 (hl x (by simp))
  | x :: l, y :: m, a, b, hl, hm, h => by
    rw [List.cons_append, List.cons_append] at h
    obtain ⟨e1, e2⟩ := List.cons.inj h
    obtain ⟨e3, e4⟩ := upto_inj (fun z hz => hl z (by simp [hz])) (fun z hz => hm z (by simp [hz])) e2
    exact ⟨by rw [e1, e3], e4⟩
theorem line_front {r r' : Rec} (h : lineT r = lineT r') : frontT r = frontT r' := (upto_inj (fun _ hx => (front_no hx).1) (fun _ hx => (front_no hx).1) h).1
theorem word_inj {k k' : Nat} (h1 : 1 ≤ k) (h2 : k ≤ 5) (h3 : 1 ≤ k') (h4 : k' ≤ 5) (h : wordK k = wordK k') : k = k' := by
  have key : ∀ a, a < 6 → ∀ b, b < 6 → 1 ≤ a → 1 ≤ b → wordK a = wordK b → a = b := by decide
  exact key k (by omega) k' (by omega) h1 h3 h
theorem Bare.kind {r : Rec} (h : Bare r) : 1 ≤ r.kind ∧ r.kind ≤ 5 := by
  unfold Bare at h
  split at h <;> first | omega | exact h.elim
theorem nums_inj {l m : List Int} (hl : ∀ z ∈ l, InR z) (hm : ∀ z ∈ m, InR z) (h : l.map (fun z => dd z.toNat) = m.map (fun z => dd z.toNat)) : l = m := by
  induction l generalizing m with
  | nil => cases m with
    | nil => rfl
    | cons y m => simp at h
  | cons x l ih => cases m with
    | nil => simp at h
    | cons y m =>
      rw [List.map_cons, List.map_cons] at h
      obtain ⟨e1, e2⟩ := List.cons.inj h
      have hx := hl x (by simp)
      have hy := hm y (by simp)
      have e3 : x.toNat = y.toNat := by rw [← dd_val x.toNat, e1, dd_val]
      have e4 : x = y := by unfold InR at hx hy; omega
      rw [e4, ih (fun z hz => hl z (by simp [hz])) (fun z hz => hm z (by simp [hz])) e2]
theorem steps_inj : ∀ {l m : List Stp} {a b : List Int}, l.length = m.length → l.flatMap stepL ++ a = m.flatMap stepL ++ b → l = m ∧ a = b
  | [], [], a, b, _, h => ⟨rfl, h⟩
  | [], y :: m, _, _, h, _ => by simp at h
  | x :: l, [], _, _, h, _ => by simp at h
  | x :: l, y :: m, a, b, h, e => by
    simp only [List.flatMap_cons, stepL, List.cons_append, List.nil_append, List.cons.injEq] at e
    obtain ⟨e1, e2, e3, e4, e5⟩ := e
    obtain ⟨e6, e7⟩ := steps_inj (by simpa using h) e5
    have : x = y := by
      obtain ⟨k, p, q, v⟩ := x
      obtain ⟨k', p', q', v'⟩ := y
      simp only at e1 e2 e3 e4
      have : k = k' := by omega
      subst this e2 e3 e4
      rfl
    exact ⟨by rw [this, e6], e7⟩
theorem after_inj : ∀ {l m : List (List Int)} {a b : List Int}, l.length = m.length → l.flatMap lenL ++ a = m.flatMap lenL ++ b → l = m ∧ a = b
  | [], [], a, b, _, h => ⟨rfl, h⟩
  | [], y :: m, _, _, h, _ => by simp at h
  | x :: l, [], _, _, h, _ => by simp at h
  | x :: l, y :: m, a, b, h, e => by
    simp only [List.flatMap_cons, lenL, List.cons_append, List.append_assoc, List.cons.injEq] at e
    obtain ⟨e1, e2⟩ := e
    have hl : x.length = y.length := by omega
    obtain ⟨e3, e4⟩ := List.append_inj e2 hl
    obtain ⟨e6, e7⟩ := after_inj (by simpa using h) e4
    exact ⟨by rw [e3, e6], e7⟩
theorem planned_inj {l m : List Stp} {a b : List (List Int)} (h1 : a.length = l.length) (h2 : b.length = m.length) (h : planned l a = planned m b) : l = m ∧ a = b := by
  unfold planned at h
  obtain ⟨e1, e2⟩ := List.cons.inj h
  have hl : l.length = m.length := by omega
  obtain ⟨e3, e4⟩ := steps_inj hl e2
  have e5 : a.flatMap lenL ++ [] = b.flatMap lenL ++ [] := by rw [List.append_nil, List.append_nil, e4]
  exact ⟨e3, (after_inj (by omega) e5).1⟩
/-- A line is the line of one record only. -/
theorem line_inj {r r' : Rec} (h : CanW r) (h' : CanW r') (e : lineT r = lineT r') : r = r' := by
  have ef := line_front e
  have e1 := fld_front r
  rw [ef, fld_front r'] at e1
  obtain ⟨e2, e3⟩ := List.cons.inj e1
  have hk := h.1.1.kind
  have hk' := h'.1.1.kind
  have ek : r'.kind = r.kind := word_inj hk'.1 hk'.2 hk.1 hk.2 e2
  have en : numsOf r' = numsOf r := nums_inj h'.2 h.2 (List.append_cancel_right e3)
  obtain ⟨k, p, i, l, a, ss, az⟩ := r
  obtain ⟨k', p', i', l', a', ss', az'⟩ := r'
  simp only at ek
  subst ek
  have hb := h.1.1
  have hb' := h'.1.1
  unfold Bare at hb hb'
  unfold numsOf at en
  simp only at hb hb' en hk
  match k', hk, hb, hb', en with
  | 1, _, hb, hb', en =>
    simp only at hb hb' en
    obtain ⟨e5, e6⟩ := planned_inj hb'.2.2.1 hb.2.2.1 en
    simp_all
  | 2, _, hb, hb', en => simp_all
  | 3, _, hb, hb', en =>
    simp only at hb hb' en
    have : a' = a := by simp at en; omega
    simp_all
  | 4, _, hb, hb', en => simp_all
  | 5, _, hb, hb', en => simp_all
  | 0, hk, _, _, _ => omega
  | n + 6, hk, _, _, _ => omega
end Go.Proofs.YtpaoeeamlinaaaaGreatDoor

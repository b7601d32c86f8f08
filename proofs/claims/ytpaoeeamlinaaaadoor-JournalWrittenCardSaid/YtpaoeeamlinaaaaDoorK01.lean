/- Contracts of library functions at this dump, laid by the kit's shelf.
   Journal, plain: records, their lines, what reading a text finds. No program in sight.
   Journal, plain: the lines of records. No program in sight. -/
import Derived.Shelf.Strings.BuilderK
import Derived.Shelf.Strconv.Atoi
import Derived.Shelf.LaysM
import Derived.Shelf.Strconv.Itoa3
import Derived.Shelf.LaysC
import Derived.Shelf.Strings.Cut
import Derived.Shelf.Strings.Prefix
import Derived.Shelf.Strings.Split
import Derived.Test.YtpaoeeamlinaaaaDoorProg
import Derived.Lib.ItoaNum
set_option linter.unusedVariables false
namespace Go.Proofs
open Go.Shelf
def Tryd.lays169_ren : Go.Shelf.Ren := ⟨fun | 169 => 11 | n => n, fun | 70 => 42 | 9 => 9 | 0 => 0 | 72 => 45 | 37 => 43 | 127 => 71 | 3 => 3 | 5 => 5 | n => n, fun | n => n⟩
theorem Tryd.lays169 : Go.Proofs.Lays.n169 Tryd.prog Tryd.lays169_ren := {
  mixed := by kernel_rfl
  f169 := Tryd.func11.trans (congrArg some (by kernel_rfl))
  t0 := Tryd.underlying0
  a0 := Tryd.isAgg0
  z0 := Tryd.sizeOf0
  v0 := Tryd.zeroValue0
  t3 := Tryd.underlying3
  a3 := Tryd.isAgg3
  z3 := Tryd.sizeOf3
  v3 := Tryd.zeroValue3
  t9 := Tryd.underlying9
  a9 := Tryd.isAgg9
  z9 := Tryd.sizeOf9
  v9 := Tryd.zeroValue9
  t37 := Tryd.underlying43
  a37 := Tryd.isAgg43
  z37 := Tryd.sizeOf43
  v37 := Tryd.zeroValue43
  t70 := Tryd.underlying42
  a70 := Tryd.isAgg42
  z70 := Tryd.sizeOf42
  v70 := Tryd.zeroValue42
  t72 := Tryd.underlying45
  a72 := Tryd.isAgg45
  z72 := Tryd.sizeOf45
  v72 := Tryd.zeroValue45
  t127 := Tryd.underlying71
  a127 := Tryd.isAgg71
  z127 := Tryd.sizeOf71
  v127 := Tryd.zeroValue71 }
theorem Tryd.Builder_Extra_169 : Builder.Extra Tryd.prog Tryd.lays169_ren := {
  sizeBuilder := by kernel_rfl
  liesBuilder := by kernel_rfl
  t5 := Tryd.underlying5
  a5 := Tryd.isAgg5
  z5 := Tryd.sizeOf5
  v5 := Tryd.zeroValue5
  infoByte := by kernel_rfl
  cellsByte := by kernel_rfl
  sizeByte := by kernel_rfl
  neB5 := by decide }
def Tryd.lays160_ren : Go.Shelf.Ren := ⟨fun | 160 => 27 | 232 => 47 | 231 => 46 | 227 => 48 | 234 => 50 | 233 => 49 | 236 => 52 | 235 => 51 | 228 => 61 | 271 => 64 | 151 => 63 | 197 => 62 | 120 => 77 | 152 => 76 | 260 => 75 | 137 => 87 | 119 => 88 | 224 => 44 | 225 => 43 | 217 => 42 | 266 => 59 | n => n, fun | 9 => 9 | 4 => 4 | 3 => 3 | 5 => 5 | 117 => 94 | 116 => 93 | 0 => 0 | 124 => 97 | 21 => 21 | 105 => 105 | 46 => 90 | 119 => 130 | 139 => 133 | 138 => 132 | n => n, fun | 3 => 4 | 4 => 5 | n => n⟩
theorem Tryd.lays160 : Go.Proofs.Lays.n160 Tryd.prog Tryd.lays160_ren := {
  mixed := by kernel_rfl
  f119 := Tryd.func88.trans (congrArg some (by kernel_rfl))
  f120 := Tryd.func77.trans (congrArg some (by kernel_rfl))
  f137 := Tryd.func87.trans (congrArg some (by kernel_rfl))
  f151 := Tryd.func63.trans (congrArg some (by kernel_rfl))
  f152 := Tryd.func76.trans (congrArg some (by kernel_rfl))
  f160 := Tryd.func27.trans (congrArg some (by kernel_rfl))
  f197 := Tryd.func62.trans (congrArg some (by kernel_rfl))
  f217 := Tryd.func42.trans (congrArg some (by kernel_rfl))
  f224 := Tryd.func44.trans (congrArg some (by kernel_rfl))
  f225 := Tryd.func43.trans (congrArg some (by kernel_rfl))
  f227 := Tryd.func48.trans (congrArg some (by kernel_rfl))
  f228 := Tryd.func61.trans (congrArg some (by kernel_rfl))
  f231 := Tryd.func46.trans (congrArg some (by kernel_rfl))
  f232 := Tryd.func47.trans (congrArg some (by kernel_rfl))
  f233 := Tryd.func49.trans (congrArg some (by kernel_rfl))
  f234 := Tryd.func50.trans (congrArg some (by kernel_rfl))
  f235 := Tryd.func51.trans (congrArg some (by kernel_rfl))
  f236 := Tryd.func52.trans (congrArg some (by kernel_rfl))
  f260 := Tryd.func75.trans (congrArg some (by kernel_rfl))
  f266 := Tryd.func59.trans (congrArg some (by kernel_rfl))
  f271 := Tryd.func64.trans (congrArg some (by kernel_rfl))
  t0 := Tryd.underlying0
  a0 := Tryd.isAgg0
  z0 := Tryd.sizeOf0
  v0 := Tryd.zeroValue0
  t3 := Tryd.underlying3
  a3 := Tryd.isAgg3
  z3 := Tryd.sizeOf3
  v3 := Tryd.zeroValue3
  t4 := Tryd.underlying4
  a4 := Tryd.isAgg4
  z4 := Tryd.sizeOf4
  v4 := Tryd.zeroValue4
  t5 := Tryd.underlying5
  a5 := Tryd.isAgg5
  z5 := Tryd.sizeOf5
  v5 := Tryd.zeroValue5
  t9 := Tryd.underlying9
  a9 := Tryd.isAgg9
  z9 := Tryd.sizeOf9
  v9 := Tryd.zeroValue9
  t21 := Tryd.underlying21
  a21 := Tryd.isAgg21
  z21 := Tryd.sizeOf21
  v21 := Tryd.zeroValue21
  t46 := Tryd.underlying90
  a46 := Tryd.isAgg90
  z46 := Tryd.sizeOf90
  v46 := Tryd.zeroValue90
  t105 := Tryd.underlying105
  a105 := Tryd.isAgg105
  z105 := Tryd.sizeOf105
  v105 := Tryd.zeroValue105
  t116 := Tryd.underlying93
  a116 := Tryd.isAgg93
  z116 := Tryd.sizeOf93
  t117 := Tryd.underlying94
  a117 := Tryd.isAgg94
  z117 := Tryd.sizeOf94
  v117 := Tryd.zeroValue94
  t119 := Tryd.underlying130
  a119 := Tryd.isAgg130
  z119 := Tryd.sizeOf130
  t124 := Tryd.underlying97
  a124 := Tryd.isAgg97
  z124 := Tryd.sizeOf97
  v124 := Tryd.zeroValue97
  t138 := Tryd.underlying132
  a138 := Tryd.isAgg132
  z138 := Tryd.sizeOf132
  v138 := Tryd.zeroValue132
  t139 := Tryd.underlying133
  a139 := Tryd.isAgg133
  z139 := Tryd.sizeOf133
  v139 := Tryd.zeroValue133
  g3 := by kernel_rfl
  g4 := by kernel_rfl }
open Go.RowKit in
/-- (*strings.Builder).String: "String returns the accumulated string.": WHATEVER THE BUILDER HOLDS; THE FORM '_k': OVER 'Lib.IsBuilderF' (a builder that 'String()' may have read), AND WITH THE FRAME THAT REACHES ABOVE THE BUILDER: 'Lib.OthersKept': every block that is not b and is no row of uint8's stands as it stood: the iterator of a range among them. (LAID: no walk: one application.) -/
theorem Tryd.Builder_String_any_k (B b : Nat) (l : List UInt8) (w : World) (h : Lib.IsBuilderF 45 5 B b (Lib.byteCells l) w) (hBw : B ≤ w.heap.size) :
    Calls Tryd.prog 11 #[.pointer (some ⟨b, 0, none⟩)] w fun e w' => e = .returned (.string ⟨l.toArray⟩) ∧ (Lib.IsBuilderF 45 5 B b (Lib.byteCells l) w' ∧ Below B w w' ∧ Lib.OthersKept 5 (some b) w w') := Any.Builder_String_any_k Tryd.lays169 Tryd.Builder_Extra_169 B b l w h hBw
def Tryd.lays172_ren : Go.Shelf.Ren := ⟨fun | 172 => 28 | 244 => 53 | 245 => 54 | 247 => 65 | 279 => 66 | 280 => 67 | 281 => 68 | 282 => 69 | 287 => 78 | 316 => 79 | 171 => 40 | 205 => 80 | 321 => 89 | 322 => 90 | 243 => 58 | 246 => 74 | 283 => 83 | 284 => 84 | 285 => 85 | 286 => 86 | 129 => 92 | 317 => 91 | 318 => 93 | 319 => 94 | 320 => 95 | 337 => 96 | 338 => 97 | n => n, fun | 9 => 9 | 3 => 3 | 75 => 48 | 76 => 49 | 4 => 4 | 5 => 5 | 167 => 108 | 37 => 43 | 0 => 0 | 85 => 109 | 2 => 2 | 168 => 111 | 53 => 118 | 175 => 119 | 46 => 90 | 210 => 123 | 127 => 71 | 145 => 138 | 143 => 136 | 21 => 21 | 171 => 125 | 173 => 128 | 212 => 140 | 51 => 101 | 20 => 20 | 213 => 141 | 232 => 144 | 233 => 145 | 80 => 51 | n => n, fun | 15 => 2 | 16 => 3 | 17 => 6 | 18 => 7 | 19 => 8 | n => n⟩
theorem Tryd.lays172 : Go.Proofs.Lays.n172 Tryd.prog Tryd.lays172_ren := {
  mixed := by kernel_rfl
  f129 := Tryd.func92.trans (congrArg some (by kernel_rfl))
  f171 := Tryd.func40.trans (congrArg some (by kernel_rfl))
  f172 := Tryd.func28.trans (congrArg some (by kernel_rfl))
  f205 := Tryd.func80.trans (congrArg some (by kernel_rfl))
  f243 := Tryd.func58.trans (congrArg some (by kernel_rfl))
  f244 := Tryd.func53.trans (congrArg some (by kernel_rfl))
  f245 := Tryd.func54.trans (congrArg some (by kernel_rfl))
  f246 := Tryd.func74.trans (congrArg some (by kernel_rfl))
  f247 := Tryd.func65.trans (congrArg some (by kernel_rfl))
  f279 := Tryd.func66.trans (congrArg some (by kernel_rfl))
  f280 := Tryd.func67.trans (congrArg some (by kernel_rfl))
  f281 := Tryd.func68.trans (congrArg some (by kernel_rfl))
  f282 := Tryd.func69.trans (congrArg some (by kernel_rfl))
  f283 := Tryd.func83.trans (congrArg some (by kernel_rfl))
  f284 := Tryd.func84.trans (congrArg some (by kernel_rfl))
  f285 := Tryd.func85.trans (congrArg some (by kernel_rfl))
  f286 := Tryd.func86.trans (congrArg some (by kernel_rfl))
  f287 := Tryd.func78.trans (congrArg some (by kernel_rfl))
  f316 := Tryd.func79.trans (congrArg some (by kernel_rfl))
  f317 := Tryd.func91.trans (congrArg some (by kernel_rfl))
  f318 := Tryd.func93.trans (congrArg some (by kernel_rfl))
  f319 := Tryd.func94.trans (congrArg some (by kernel_rfl))
  f320 := Tryd.func95.trans (congrArg some (by kernel_rfl))
  f321 := Tryd.func89.trans (congrArg some (by kernel_rfl))
  f322 := Tryd.func90.trans (congrArg some (by kernel_rfl))
  f337 := Tryd.func96.trans (congrArg some (by kernel_rfl))
  f338 := Tryd.func97.trans (congrArg some (by kernel_rfl))
  t0 := Tryd.underlying0
  a0 := Tryd.isAgg0
  z0 := Tryd.sizeOf0
  v0 := Tryd.zeroValue0
  t2 := Tryd.underlying2
  a2 := Tryd.isAgg2
  z2 := Tryd.sizeOf2
  v2 := Tryd.zeroValue2
  t3 := Tryd.underlying3
  a3 := Tryd.isAgg3
  z3 := Tryd.sizeOf3
  v3 := Tryd.zeroValue3
  t4 := Tryd.underlying4
  a4 := Tryd.isAgg4
  z4 := Tryd.sizeOf4
  v4 := Tryd.zeroValue4
  t5 := Tryd.underlying5
  a5 := Tryd.isAgg5
  z5 := Tryd.sizeOf5
  v5 := Tryd.zeroValue5
  t9 := Tryd.underlying9
  a9 := Tryd.isAgg9
  z9 := Tryd.sizeOf9
  v9 := Tryd.zeroValue9
  t20 := Tryd.underlying20
  a20 := Tryd.isAgg20
  z20 := Tryd.sizeOf20
  v20 := Tryd.zeroValue20
  t21 := Tryd.underlying21
  a21 := Tryd.isAgg21
  z21 := Tryd.sizeOf21
  v21 := Tryd.zeroValue21
  t37 := Tryd.underlying43
  a37 := Tryd.isAgg43
  z37 := Tryd.sizeOf43
  v37 := Tryd.zeroValue43
  t46 := Tryd.underlying90
  a46 := Tryd.isAgg90
  z46 := Tryd.sizeOf90
  v46 := Tryd.zeroValue90
  t51 := Tryd.underlying101
  a51 := Tryd.isAgg101
  z51 := Tryd.sizeOf101
  v51 := Tryd.zeroValue101
  t53 := Tryd.underlying118
  a53 := Tryd.isAgg118
  z53 := Tryd.sizeOf118
  v53 := Tryd.zeroValue118
  t75 := Tryd.underlying48
  a75 := Tryd.isAgg48
  z75 := Tryd.sizeOf48
  v75 := Tryd.zeroValue48
  t76 := Tryd.underlying49
  a76 := Tryd.isAgg49
  z76 := Tryd.sizeOf49
  v76 := Tryd.zeroValue49
  t85 := Tryd.underlying109
  a85 := Tryd.isAgg109
  z85 := Tryd.sizeOf109
  v85 := Tryd.zeroValue109
  t127 := Tryd.underlying71
  a127 := Tryd.isAgg71
  z127 := Tryd.sizeOf71
  v127 := Tryd.zeroValue71
  t143 := Tryd.underlying136
  a143 := Tryd.isAgg136
  z143 := Tryd.sizeOf136
  v143 := Tryd.zeroValue136
  t145 := Tryd.underlying138
  a145 := Tryd.isAgg138
  z145 := Tryd.sizeOf138
  v145 := Tryd.zeroValue138
  t167 := Tryd.underlying108
  a167 := Tryd.isAgg108
  z167 := Tryd.sizeOf108
  v167 := Tryd.zeroValue108
  t168 := Tryd.underlying111
  a168 := Tryd.isAgg111
  z168 := Tryd.sizeOf111
  v168 := Tryd.zeroValue111
  t171 := Tryd.underlying125
  a171 := Tryd.isAgg125
  z171 := Tryd.sizeOf125
  v171 := Tryd.zeroValue125
  t173 := Tryd.underlying128
  a173 := Tryd.isAgg128
  z173 := Tryd.sizeOf128
  v173 := Tryd.zeroValue128
  t175 := Tryd.underlying119
  a175 := Tryd.isAgg119
  z175 := Tryd.sizeOf119
  v175 := Tryd.zeroValue119
  t210 := Tryd.underlying123
  a210 := Tryd.isAgg123
  z210 := Tryd.sizeOf123
  v210 := Tryd.zeroValue123
  t212 := Tryd.underlying140
  a212 := Tryd.isAgg140
  z212 := Tryd.sizeOf140
  v212 := Tryd.zeroValue140
  t213 := Tryd.underlying141
  a213 := Tryd.isAgg141
  z213 := Tryd.sizeOf141
  t232 := Tryd.underlying144
  a232 := Tryd.isAgg144
  z232 := Tryd.sizeOf144
  v232 := Tryd.zeroValue144
  t233 := Tryd.underlying145
  a233 := Tryd.isAgg145
  z233 := Tryd.sizeOf145
  v233 := Tryd.zeroValue145
  g15 := by kernel_rfl
  g16 := by kernel_rfl
  g17 := by kernel_rfl
  g18 := by kernel_rfl
  g19 := by kernel_rfl }
open Go.RowKit in
/-- strconv.Atoi: "Atoi is equivalent to ParseInt(s, 10, 0), converted to type int.": AT A DECIMAL NUMERAL OF AT MOST 18 BYTES: its value, and a nil error. The world behind the call: the one new row that the library's '[]byte(s)' lays. (LAID: no walk: one application.) -/
theorem Tryd.strconv_Atoi (s : ByteArray) (n : Int) (hl : s.size ≤ 18) (h : Lib.atoi s.data.toList = some n) (w : World) :
    Calls Tryd.prog 28 #[.string s] w fun e w' => e = .returned (.tuple #[.int .i64 n, .nilIface]) ∧ ∃ t, w' = Lib.bytesWorld w 5 t := Any.strconv_Atoi Tryd.lays172 s n hl h w
def Tryd.laysM171_ren : Go.Shelf.Ren := ⟨fun | 171 => 40 | 243 => 58 | 246 => 74 | 283 => 83 | 284 => 84 | 285 => 85 | 286 => 86 | 129 => 92 | 317 => 91 | 318 => 93 | 319 => 94 | 320 => 95 | 337 => 96 | 338 => 97 | n => n, fun | 3 => 3 | 9 => 9 | 2 => 2 | 4 => 4 | 171 => 125 | 0 => 0 | 53 => 118 | 37 => 43 | 5 => 5 | 173 => 128 | 212 => 140 | 51 => 101 | 20 => 20 | 213 => 141 | 46 => 90 | 232 => 144 | 233 => 145 | n => n, fun | 17 => 6 | 18 => 7 | 19 => 8 | n => n⟩
theorem Tryd.laysM171 : Go.Proofs.LaysM.n171 Tryd.prog Tryd.laysM171_ren := {
  mixed := by kernel_rfl
  f129 := Tryd.func92.trans (congrArg some (by kernel_rfl))
  f171 := Tryd.func40.trans (congrArg some (by kernel_rfl))
  f243 := Tryd.func58.trans (congrArg some (by kernel_rfl))
  f246 := Tryd.func74.trans (congrArg some (by kernel_rfl))
  f283 := Tryd.func83.trans (congrArg some (by kernel_rfl))
  f284 := Tryd.func84.trans (congrArg some (by kernel_rfl))
  f285 := Tryd.func85.trans (congrArg some (by kernel_rfl))
  f286 := Tryd.func86.trans (congrArg some (by kernel_rfl))
  f317 := Tryd.func91.trans (congrArg some (by kernel_rfl))
  f318 := Tryd.func93.trans (congrArg some (by kernel_rfl))
  f319 := Tryd.func94.trans (congrArg some (by kernel_rfl))
  f320 := Tryd.func95.trans (congrArg some (by kernel_rfl))
  f337 := Tryd.func96.trans (congrArg some (by kernel_rfl))
  f338 := Tryd.func97.trans (congrArg some (by kernel_rfl))
  t0 := Tryd.underlying0
  a0 := Tryd.isAgg0
  z0 := Tryd.sizeOf0
  v0 := Tryd.zeroValue0
  t2 := Tryd.underlying2
  a2 := Tryd.isAgg2
  z2 := Tryd.sizeOf2
  v2 := Tryd.zeroValue2
  t3 := Tryd.underlying3
  a3 := Tryd.isAgg3
  z3 := Tryd.sizeOf3
  v3 := Tryd.zeroValue3
  t4 := Tryd.underlying4
  a4 := Tryd.isAgg4
  z4 := Tryd.sizeOf4
  v4 := Tryd.zeroValue4
  t5 := Tryd.underlying5
  a5 := Tryd.isAgg5
  z5 := Tryd.sizeOf5
  v5 := Tryd.zeroValue5
  t9 := Tryd.underlying9
  a9 := Tryd.isAgg9
  z9 := Tryd.sizeOf9
  v9 := Tryd.zeroValue9
  t20 := Tryd.underlying20
  a20 := Tryd.isAgg20
  z20 := Tryd.sizeOf20
  v20 := Tryd.zeroValue20
  t37 := Tryd.underlying43
  a37 := Tryd.isAgg43
  z37 := Tryd.sizeOf43
  v37 := Tryd.zeroValue43
  t46 := Tryd.underlying90
  a46 := Tryd.isAgg90
  z46 := Tryd.sizeOf90
  v46 := Tryd.zeroValue90
  t51 := Tryd.underlying101
  a51 := Tryd.isAgg101
  z51 := Tryd.sizeOf101
  v51 := Tryd.zeroValue101
  t53 := Tryd.underlying118
  a53 := Tryd.isAgg118
  z53 := Tryd.sizeOf118
  v53 := Tryd.zeroValue118
  t171 := Tryd.underlying125
  a171 := Tryd.isAgg125
  z171 := Tryd.sizeOf125
  v171 := Tryd.zeroValue125
  t173 := Tryd.underlying128
  a173 := Tryd.isAgg128
  z173 := Tryd.sizeOf128
  v173 := Tryd.zeroValue128
  t212 := Tryd.underlying140
  a212 := Tryd.isAgg140
  z212 := Tryd.sizeOf140
  v212 := Tryd.zeroValue140
  t213 := Tryd.underlying141
  a213 := Tryd.isAgg141
  z213 := Tryd.sizeOf141
  t232 := Tryd.underlying144
  a232 := Tryd.isAgg144
  z232 := Tryd.sizeOf144
  v232 := Tryd.zeroValue144
  t233 := Tryd.underlying145
  a233 := Tryd.isAgg145
  z233 := Tryd.sizeOf145
  v233 := Tryd.zeroValue145
  g17 := by kernel_rfl
  g18 := by kernel_rfl
  g19 := by kernel_rfl
  i0 := by kernel_rfl
  i2 := by kernel_rfl
  i3 := by kernel_rfl
  i4 := by kernel_rfl
  i5 := by kernel_rfl
  i9 := by kernel_rfl
  i20 := by kernel_rfl
  i37 := by kernel_rfl
  i46 := by kernel_rfl
  i51 := by kernel_rfl
  i53 := by kernel_rfl
  i171 := by kernel_rfl
  i173 := by kernel_rfl
  i212 := by kernel_rfl
  i232 := by kernel_rfl
  i233 := by kernel_rfl
  m17 := by kernel_rfl
  m18 := by kernel_rfl
  m19 := by kernel_rfl }
open Go.RowKit Go.Sort Go.Lib in
/-- strconv.Itoa: "Itoa is equivalent to FormatInt(int64(i), 10).": i's DECIMAL NUMERAL ('Lib.itoa': a '-' where i is negative, then the digits), FOR EVERY int. The world behind the call: the world before it, new blocks behind the heap (the library's 'var a [24]byte'), draws. (LAID: no walk: one application.) -/
theorem Tryd.strconv_Itoa (n : Int) (h0 : -9223372036854775808 ≤ n) (h1 : n ≤ 9223372036854775807) (w : World) (htab : Lib.TabIs Tryd.prog w "internal/strconv.uint64pow10" .u64 Lib.pow10Tab) :
    Calls Tryd.prog 40 #[.int .i64 n] w fun e w' => e = .returned (.string ⟨(Lib.itoa n).toArray⟩) ∧ ∃ k os, w' = grow (w.drewN k) os := Any.strconv_Itoa Tryd.laysM171 n h0 h1 w htab
def Tryd.lays145_ren : Go.Shelf.Ren := ⟨fun | 145 => 7 | 220 => 12 | 219 => 26 | 217 => 42 | 225 => 43 | 224 => 44 | 267 => 45 | 266 => 59 | 314 => 60 | n => n, fun | 9 => 9 | 4 => 4 | 59 => 30 | 3 => 3 | 5 => 5 | 46 => 90 | 146 => 102 | 51 => 101 | n => n, fun | 1 => 1 | n => n⟩
theorem Tryd.lays145 : Go.Proofs.Lays.n145 Tryd.prog Tryd.lays145_ren := {
  mixed := by kernel_rfl
  f145 := Tryd.func7.trans (congrArg some (by kernel_rfl))
  f217 := Tryd.func42.trans (congrArg some (by kernel_rfl))
  f219 := Tryd.func26.trans (congrArg some (by kernel_rfl))
  f220 := Tryd.func12.trans (congrArg some (by kernel_rfl))
  f224 := Tryd.func44.trans (congrArg some (by kernel_rfl))
  f225 := Tryd.func43.trans (congrArg some (by kernel_rfl))
  f266 := Tryd.func59.trans (congrArg some (by kernel_rfl))
  f267 := Tryd.func45.trans (congrArg some (by kernel_rfl))
  f314 := Tryd.func60.trans (congrArg some (by kernel_rfl))
  t3 := Tryd.underlying3
  a3 := Tryd.isAgg3
  z3 := Tryd.sizeOf3
  v3 := Tryd.zeroValue3
  t4 := Tryd.underlying4
  a4 := Tryd.isAgg4
  z4 := Tryd.sizeOf4
  v4 := Tryd.zeroValue4
  t5 := Tryd.underlying5
  a5 := Tryd.isAgg5
  z5 := Tryd.sizeOf5
  v5 := Tryd.zeroValue5
  t9 := Tryd.underlying9
  a9 := Tryd.isAgg9
  z9 := Tryd.sizeOf9
  v9 := Tryd.zeroValue9
  t46 := Tryd.underlying90
  a46 := Tryd.isAgg90
  z46 := Tryd.sizeOf90
  v46 := Tryd.zeroValue90
  t51 := Tryd.underlying101
  a51 := Tryd.isAgg101
  z51 := Tryd.sizeOf101
  v51 := Tryd.zeroValue101
  t59 := Tryd.underlying30
  a59 := Tryd.isAgg30
  z59 := Tryd.sizeOf30
  v59 := Tryd.zeroValue30
  t146 := Tryd.underlying102
  a146 := Tryd.isAgg102
  z146 := Tryd.sizeOf102
  v146 := Tryd.zeroValue102
  g1 := by kernel_rfl }
open Go.RowKit Go.Lib in
/-- strings.Cut: "Cut slices s around the first instance of sep, returning the text before and after sep. The found result reports whether sep appears in s. If sep does not appear in s, cut returns s, "", false.": IT RETURNS 'Lib.cut s sep'; the world is as it was but for the count of draws. (LAID: no walk: one application.) -/
theorem Tryd.strings_Cut (s sep : ByteArray) (m : Int) (w : World) (hs : s.size < 4294967281) (hm : w.cell? ⟨1, 0, none⟩ = some (.int .i64 m)) :
    Calls Tryd.prog 7 #[.string s, .string sep] w fun e w' => e = .returned (.tuple #[.string ⟨(Lib.cut s.data.toList sep.data.toList).1.toArray⟩, .string ⟨(Lib.cut s.data.toList sep.data.toList).2.1.toArray⟩, .bool (Lib.cut s.data.toList sep.data.toList).2.2]) ∧ ∃ n, w' = w.drewN n := Any.strings_Cut Tryd.lays145 s sep m w hs hm
def Tryd.lays102_ren : Go.Shelf.Ren := ⟨fun | 102 => 30 | 209 => 56 | 207 => 73 | n => n, fun | 9 => 9 | 4 => 4 | 3 => 3 | n => n, fun | n => n⟩
theorem Tryd.lays102 : Go.Proofs.Lays.n102 Tryd.prog Tryd.lays102_ren := {
  mixed := by kernel_rfl
  f102 := Tryd.func30.trans (congrArg some (by kernel_rfl))
  f207 := Tryd.func73.trans (congrArg some (by kernel_rfl))
  f209 := Tryd.func56.trans (congrArg some (by kernel_rfl))
  t3 := Tryd.underlying3
  a3 := Tryd.isAgg3
  z3 := Tryd.sizeOf3
  v3 := Tryd.zeroValue3
  t4 := Tryd.underlying4
  a4 := Tryd.isAgg4
  z4 := Tryd.sizeOf4
  v4 := Tryd.zeroValue4
  t9 := Tryd.underlying9
  a9 := Tryd.isAgg9
  z9 := Tryd.sizeOf9
  v9 := Tryd.zeroValue9 }
open Go.RowKit Go.Lib in
/-- strings.TrimSuffix: "TrimSuffix returns s without the provided trailing suffix string. If s doesn't end with suffix, s is returned unchanged.": IT RETURNS 'Lib.trimSuffix s suffix'; the world is as it was. (LAID: no walk: one application.) -/
theorem Tryd.strings_TrimSuffix (s p : ByteArray) (w : World) (hs : s.size ≤ 9223372036854775807) :
    Calls Tryd.prog 30 #[.string s, .string p] w fun e w' => e = .returned (.string ⟨(Lib.trimSuffix s.data.toList p.data.toList).toArray⟩) ∧ w' = w := Any.strings_TrimSuffix Tryd.lays102 s p w hs
def Tryd.lays146_ren : Go.Shelf.Ren := ⟨fun | 146 => 29 | 221 => 55 | 268 => 70 | 138 => 71 | 143 => 72 | 195 => 81 | 197 => 62 | 218 => 82 | 219 => 26 | 260 => 75 | 217 => 42 | 225 => 43 | 224 => 44 | 267 => 45 | 266 => 59 | 314 => 60 | n => n, fun | 9 => 9 | 31 => 62 | 3 => 3 | 4 => 4 | 0 => 0 | 105 => 105 | 21 => 21 | 5 => 5 | 46 => 90 | 119 => 130 | 139 => 133 | 138 => 132 | 146 => 102 | 51 => 101 | n => n, fun | 1 => 1 | 3 => 4 | 4 => 5 | n => n⟩
theorem Tryd.lays146 : Go.Proofs.Lays.n146 Tryd.prog Tryd.lays146_ren := {
  mixed := by kernel_rfl
  f138 := Tryd.func71.trans (congrArg some (by kernel_rfl))
  f143 := Tryd.func72.trans (congrArg some (by kernel_rfl))
  f146 := Tryd.func29.trans (congrArg some (by kernel_rfl))
  f195 := Tryd.func81.trans (congrArg some (by kernel_rfl))
  f197 := Tryd.func62.trans (congrArg some (by kernel_rfl))
  f217 := Tryd.func42.trans (congrArg some (by kernel_rfl))
  f218 := Tryd.func82.trans (congrArg some (by kernel_rfl))
  f219 := Tryd.func26.trans (congrArg some (by kernel_rfl))
  f221 := Tryd.func55.trans (congrArg some (by kernel_rfl))
  f224 := Tryd.func44.trans (congrArg some (by kernel_rfl))
  f225 := Tryd.func43.trans (congrArg some (by kernel_rfl))
  f260 := Tryd.func75.trans (congrArg some (by kernel_rfl))
  f266 := Tryd.func59.trans (congrArg some (by kernel_rfl))
  f267 := Tryd.func45.trans (congrArg some (by kernel_rfl))
  f268 := Tryd.func70.trans (congrArg some (by kernel_rfl))
  f314 := Tryd.func60.trans (congrArg some (by kernel_rfl))
  t0 := Tryd.underlying0
  a0 := Tryd.isAgg0
  z0 := Tryd.sizeOf0
  v0 := Tryd.zeroValue0
  t3 := Tryd.underlying3
  a3 := Tryd.isAgg3
  z3 := Tryd.sizeOf3
  v3 := Tryd.zeroValue3
  t4 := Tryd.underlying4
  a4 := Tryd.isAgg4
  z4 := Tryd.sizeOf4
  v4 := Tryd.zeroValue4
  t5 := Tryd.underlying5
  a5 := Tryd.isAgg5
  z5 := Tryd.sizeOf5
  v5 := Tryd.zeroValue5
  t9 := Tryd.underlying9
  a9 := Tryd.isAgg9
  z9 := Tryd.sizeOf9
  v9 := Tryd.zeroValue9
  t21 := Tryd.underlying21
  a21 := Tryd.isAgg21
  z21 := Tryd.sizeOf21
  v21 := Tryd.zeroValue21
  t31 := Tryd.underlying62
  a31 := Tryd.isAgg62
  z31 := Tryd.sizeOf62
  v31 := Tryd.zeroValue62
  t46 := Tryd.underlying90
  a46 := Tryd.isAgg90
  z46 := Tryd.sizeOf90
  v46 := Tryd.zeroValue90
  t51 := Tryd.underlying101
  a51 := Tryd.isAgg101
  z51 := Tryd.sizeOf101
  v51 := Tryd.zeroValue101
  t105 := Tryd.underlying105
  a105 := Tryd.isAgg105
  z105 := Tryd.sizeOf105
  v105 := Tryd.zeroValue105
  t119 := Tryd.underlying130
  a119 := Tryd.isAgg130
  z119 := Tryd.sizeOf130
  t138 := Tryd.underlying132
  a138 := Tryd.isAgg132
  z138 := Tryd.sizeOf132
  v138 := Tryd.zeroValue132
  t139 := Tryd.underlying133
  a139 := Tryd.isAgg133
  z139 := Tryd.sizeOf133
  v139 := Tryd.zeroValue133
  t146 := Tryd.underlying102
  a146 := Tryd.isAgg102
  z146 := Tryd.sizeOf102
  v146 := Tryd.zeroValue102
  g1 := by kernel_rfl
  g3 := by kernel_rfl
  g4 := by kernel_rfl }
open Go.RowKit Go.Lib in
/-- strings.Split. (LAID: no walk: one application.) -/
theorem Tryd.strings_Split (s sep : ByteArray) (m : Int) (w : World) (hs : s.size < 4294967281) (hm : w.cell? ⟨1, 0, none⟩ = some (.int .i64 m)) (h1 : 1 ≤ sep.size) :
    Calls Tryd.prog 29 #[.string s, .string sep] w fun e w' =>
      e = .returned (.slice (some ⟨w.heap.size, 0, none⟩) (Lib.countB s sep + 1) (Lib.countB s sep + 1)) ∧ w' = w.alloc (.cells ((Lib.splitB sep 0 (Lib.countB s sep) s).map Value.string).toArray 9) := Any.strings_Split Tryd.lays146 (by kernel_rfl) s sep m w hs hm h1
end Go.Proofs

namespace Go.Proofs.YtpaoeeamlinaaaaDoor
open Go

structure Stp where
  kind : Nat
  host : Int
  srv : Int
  ver : Int
deriving DecidableEq
structure Rec where
  kind : Nat
  place : Int
  id : Int
  lease : Int
  ans : Nat
  steps : List Stp
  after : List (List Int)
deriving DecidableEq
def Rec.none : Rec := ⟨0, 0, 0, 0, 0, [], []⟩

/-! sums -/
/-- What Sum's loop does from place i on. -/
def sumGo : Nat → Nat → List UInt8 → Nat
  | _, n, [] => n
  | i, n, c :: l => sumGo (i + 1) ((n + (i + 1) % 9973 * c.toNat) % 9973) l
def sumT (l : List UInt8) : Nat := sumGo 0 0 l
/-- The sum, not reduced. -/
def sumW : Nat → List UInt8 → Nat
  | _, [] => 0
  | i, c :: l => (i + 1) % 9973 * c.toNat + sumW (i + 1) l
theorem sumGo_is : ∀ (l : List UInt8) (i n : Nat), n < 9973 → sumGo i n l = (n + sumW i l) % 9973
  | [], i, n, h => by simp [sumGo, sumW, Nat.mod_eq_of_lt h]
  | c :: l, i, n, h => by
    unfold sumGo sumW
    rw [sumGo_is l (i + 1) _ (Nat.mod_lt _ (by decide)), Nat.mod_add_mod, Nat.add_assoc]
theorem sumT_is (l : List UInt8) : sumT l = sumW 0 l % 9973 := by unfold sumT; rw [sumGo_is l 0 0 (by decide), Nat.zero_add]
theorem sumT_lt (l : List UInt8) : sumT l < 9973 := by rw [sumT_is]; exact Nat.mod_lt _ (by decide)
theorem sumW_app : ∀ (l m : List UInt8) (i : Nat), sumW i (l ++ m) = sumW i l + sumW (i + l.length) m
  | [], m, i => by simp [sumW]
  | c :: l, m, i => by
    simp only [List.cons_append, sumW, List.length_cons]
    rw [sumW_app l m (i + 1), show i + 1 + l.length = i + (l.length + 1) by omega]
    omega
theorem cop9973 : ∀ d, d < 256 → 0 < d → Nat.gcd 9973 d = 1 := by decide +kernel
/-- Another byte, another sum. -/
theorem sumT_other {l m : List UInt8} {c d : UInt8} (hl : l.length < 9972) (hne : c ≠ d) : sumT (l ++ c :: m) ≠ sumT (l ++ d :: m) := by
  rw [sumT_is, sumT_is, sumW_app, sumW_app]
  simp only [sumW, Nat.zero_add]
  rw [Nat.mod_eq_of_lt (show l.length + 1 < 9973 by omega)]
  intro h
  generalize sumW (l.length + 1) m = y at h
  generalize sumW 0 l = x at h
  have hc : c.toNat < 256 := c.toNat_lt
  have hd : d.toNat < 256 := d.toNat_lt
  have hn : c.toNat ≠ d.toNat := fun e => hne (UInt8.toNat_inj.1 e)
  generalize c.toNat = p at *
  generalize d.toNat = q at *
  have key : ∀ p q k : Nat, p < q → q < 256 → 0 < k → k < 9973 → (x + (k * p + y)) % 9973 = (x + (k * q + y)) % 9973 → False := by
    intro p q k h1 h2 h3 h4 h5
    have h0 := Nat.mul_le_mul_left k (Nat.le_of_lt h1)
    have h7 : k * q - k * p = k * (q - p) := (Nat.mul_sub k q p).symm
    have h6 : 9973 ∣ k * (q - p) := by
      rw [← h7]
      refine ⟨(x + (k * q + y)) / 9973 - (x + (k * p + y)) / 9973, ?_⟩
      omega
    have hcop : Nat.Coprime 9973 (q - p) := cop9973 (q - p) (by omega) (by omega)
    have h8 := hcop.dvd_of_dvd_mul_right h6
    have := Nat.le_of_dvd h3 h8
    omega
  rcases Nat.lt_or_gt_of_ne hn with g | g
  · exact key p q (l.length + 1) g hd (by omega) (by omega) h
  · exact key q p (l.length + 1) g hc (by omega) (by omega) h.symm

/-! numbers -/
abbrev dd (n : Nat) : List UInt8 := Lib.decDigits n
def isDig (c : UInt8) : Bool := decide (48 ≤ c.toNat ∧ c.toNat ≤ 57)
def valD (l : List UInt8) : Nat := l.foldl (fun n c => 10 * n + (c.toNat - 48)) 0
/-- The number that a word is. -/
def numF (w : List UInt8) : Option Nat := if w = [] ∨ 7 < w.length ∨ (w.head? = some 48 ∧ 1 < w.length) ∨ w.all isDig = false then none else some (valD w)
theorem valD_snoc (l : List UInt8) (c : UInt8) : valD (l ++ [c]) = 10 * valD l + (c.toNat - 48) := by simp [valD, List.foldl_append]
theorem ofN_toNat {x : Nat} (h : x < 256) : (UInt8.ofNat x).toNat = x := by simp [Nat.mod_eq_of_lt h]
theorem dd_small {n : Nat} (h : n < 10) : dd n = [UInt8.ofNat (48 + n)] := by unfold dd; rw [Lib.decDigits, dif_pos h]
theorem dd_big {n : Nat} (h : ¬ n < 10) : dd n = dd (n / 10) ++ [UInt8.ofNat (48 + n % 10)] := by unfold dd; rw [Lib.decDigits, dif_neg h]
theorem dd_all (n : Nat) : (dd n).all isDig = true := by
  induction n using Nat.strongRecOn with
  | _ n ih =>
    by_cases h : n < 10
    · rw [dd_small h]; simp [isDig]; omega
    · rw [dd_big h, List.all_append, ih (n / 10) (by omega)]
      simp [isDig]; omega
theorem dd_ne (n : Nat) : dd n ≠ [] := by
  by_cases h : n < 10
  · rw [dd_small h]; simp
  · rw [dd_big h]; simp
theorem dd_val (n : Nat) : valD (dd n) = n := by
  induction n using Nat.strongRecOn with
  | _ n ih =>
    by_cases h : n < 10
    · rw [dd_small h]
      show 10 * 0 + ((UInt8.ofNat (48 + n)).toNat - 48) = n
      rw [ofN_toNat (by omega)]; omega
    · rw [dd_big h, valD_snoc, ih (n / 10) (by omega), ofN_toNat (by omega)]; omega
theorem head_app {l m : List UInt8} (h : l ≠ []) : (l ++ m).head? = l.head? := by cases l with
  | nil => exact absurd rfl h
  | cons c l => rfl
theorem dd_head (n : Nat) (h : 0 < n) : (dd n).head? ≠ some 48 := by
  induction n using Nat.strongRecOn with
  | _ n ih =>
    by_cases h1 : n < 10
    · rw [dd_small h1]
      simp only [List.head?_cons, ne_eq, Option.some.injEq]
      intro e
      have := congrArg UInt8.toNat e
      rw [ofN_toNat (by omega)] at this
      simp at this; omega
    · rw [dd_big h1, head_app (dd_ne _)]
      exact ih (n / 10) (by omega) (by omega)
theorem dd_len : ∀ (k n : Nat), 0 < k → n < 10 ^ k → (dd n).length ≤ k
  | 0, n, h, _ => absurd h (by omega)
  | k + 1, n, _, h => by
    by_cases h1 : n < 10
    · rw [dd_small h1]; simp
    · rw [dd_big h1, List.length_append, List.length_singleton]
      have hk : 0 < k := by
        rcases Nat.eq_zero_or_pos k with e | e
        · subst e; simp at h; omega
        · exact e
      have := dd_len k (n / 10) hk (by rw [Nat.pow_succ] at h; omega)
      omega
theorem numF_dd {n : Nat} (h : n < 10000000) : numF (dd n) = some n := by
  unfold numF
  rw [if_neg, dd_val]
  rintro (h1 | h1 | ⟨h1, h2⟩ | h1)
  · exact dd_ne n h1
  · have := dd_len 7 n (by omega) h; omega
  · rcases Nat.eq_zero_or_pos n with e | e
    · subst e; rw [dd_small (by omega)] at h2; simp at h2
    · exact dd_head n e h1
  · rw [dd_all] at h1; cases h1
theorem dd_of_val : ∀ (k : Nat) (w : List UInt8), w.length = k → w ≠ [] → w.all isDig = true → (w.head? ≠ some 48 ∨ w.length ≤ 1) → dd (valD w) = w
  | 0, w, h, hn, _, _ => absurd (List.length_eq_zero_iff.1 h) hn
  | k + 1, w, h, hn, ha, hz => by
    obtain ⟨l, c, rfl⟩ : ∃ l c, w = l ++ [c] := ⟨w.dropLast, w.getLast hn, (List.dropLast_concat_getLast hn).symm⟩
    rw [List.all_append] at ha
    simp only [Bool.and_eq_true, List.all_cons, List.all_nil, Bool.and_true] at ha
    have hc : 48 ≤ c.toNat ∧ c.toNat ≤ 57 := by have := ha.2; unfold isDig at this; simpa using this
    have e48 : UInt8.ofNat (48 + (c.toNat - 48)) = c := by rw [show 48 + (c.toNat - 48) = c.toNat by omega]; exact UInt8.ofNat_toNat
    rw [valD_snoc]
    by_cases hl : l = []
    · subst hl
      rw [show valD [] = 0 from rfl, Nat.mul_zero, Nat.zero_add, dd_small (by omega), e48]; rfl
    · have hl1 : 0 < l.length := List.length_pos_iff.2 hl
      have hh : l.head? ≠ some 48 := by
        rcases hz with hz | hz
        · rwa [head_app hl] at hz
        · rw [List.length_append, List.length_singleton] at hz; omega
      have ih := dd_of_val k l (by rw [List.length_append, List.length_singleton] at h; omega) hl ha.1 (.inl hh)
      have hv : 0 < valD l := by
        rcases Nat.eq_zero_or_pos (valD l) with e | e
        · rw [e, dd_small (by omega)] at ih
          exact absurd (by rw [← ih]; rfl) hh
        · exact e
      rw [dd_big (by omega), show (10 * valD l + (c.toNat - 48)) / 10 = valD l by omega, ih, show (10 * valD l + (c.toNat - 48)) % 10 = c.toNat - 48 by omega, e48]
theorem numF_some {w : List UInt8} {n : Nat} (h : numF w = some n) : w = dd n ∧ w.length ≤ 7 := by
  unfold numF at h
  split at h
  · cases h
  · rename_i hc
    obtain rfl := Option.some.inj h
    have h1 : w ≠ [] := fun e => hc (.inl e)
    have h2 : ¬ 7 < w.length := fun e => hc (.inr (.inl e))
    have h3 : w.all isDig = true := by
      cases e : w.all isDig with
      | true => rfl
      | false => exact absurd (.inr (.inr (.inr e))) hc
    refine ⟨(dd_of_val _ w rfl h1 h3 ?_).symm, by omega⟩
    by_cases h4 : w.head? = some 48
    · right
      exact Nat.le_of_not_lt fun e => hc (.inr (.inr (.inl ⟨h4, e⟩)))
    · exact .inl h4
theorem dd_lt {w : List UInt8} {n : Nat} (h : numF w = some n) : n < 10000000 := by
  obtain ⟨rfl, hl⟩ := numF_some h
  have h2 := Lib.lt_pow_nDigits n
  have h3 : (dd n).length = Lib.nDigits n := Lib.decDigits_length n
  have h4 : 10 ^ Lib.nDigits n ≤ 10 ^ 7 := Nat.pow_le_pow_right (by omega) (by omega)
  have h5 : (10 : Nat) ^ 7 = 10000000 := rfl
  omega
end Go.Proofs.YtpaoeeamlinaaaaDoor

namespace Go.Proofs.YtpaoeeamlinaaaaDoor
open Go

def wordK (k : Nat) : List UInt8 := match k with
  | 1 => [112, 108, 97, 110]
  | 2 => [105, 110, 116, 101, 110, 116]
  | 3 => [97, 110, 115, 119, 101, 114]
  | 4 => [115, 116, 111, 112]
  | 5 => [101, 110, 100]
  | _ => []
def stepL (s : Stp) : List Int := [(s.kind : Int), s.host, s.srv, s.ver]
def lenL (a : List Int) : List Int := (a.length : Int) :: a
def planned (ss : List Stp) (az : List (List Int)) : List Int := (ss.length : Int) :: (ss.flatMap stepL ++ az.flatMap lenL)
/-- The numbers of a record's line. -/
def numsOf (r : Rec) : List Int := match r.kind with
  | 1 => planned r.steps r.after
  | 2 => [r.place, r.id, r.lease]
  | 3 => [r.id, (r.ans : Int)]
  | _ => []
/-- The record has no other fields than its kind, and a plan that is not too long. -/
def Bare (r : Rec) : Prop := match r.kind with
  | 1 => (r.place = 0 ∧ r.id = 0 ∧ r.lease = 0 ∧ r.ans = 0) ∧ r.steps.length ≤ 12 ∧ r.after.length = r.steps.length ∧ ∀ a ∈ r.after, a.length ≤ 12
  | 2 => r.steps = [] ∧ r.after = [] ∧ r.ans = 0
  | 3 => r.steps = [] ∧ r.after = [] ∧ r.place = 0 ∧ r.lease = 0
  | 4 => r.steps = [] ∧ r.after = [] ∧ r.place = 0 ∧ r.id = 0 ∧ r.lease = 0 ∧ r.ans = 0
  | 5 => r.steps = [] ∧ r.after = [] ∧ r.place = 0 ∧ r.id = 0 ∧ r.lease = 0 ∧ r.ans = 0
  | _ => False
instance (r : Rec) : Decidable (Bare r) := by unfold Bare; split <;> infer_instance
def InR (z : Int) : Prop := 0 ≤ z ∧ z ≤ 1000000
instance (z : Int) : Decidable (InR z) := by unfold InR; infer_instance
/-- The record's small numbers are small. -/
def Small8 (r : Rec) : Prop := r.ans < 256 ∧ ∀ s ∈ r.steps, s.kind < 256
instance (r : Rec) : Decidable (Small8 r) := by unfold Small8; infer_instance
/-- The record can be written. -/
def CanW (r : Rec) : Prop := (Bare r ∧ Small8 r) ∧ ∀ z ∈ numsOf r, InR z
instance (r : Rec) : Decidable (CanW r) := by unfold CanW; infer_instance
def spaced (l : List Int) : List UInt8 := l.flatMap fun z => 32 :: dd z.toNat
def frontT (r : Rec) : List UInt8 := wordK r.kind ++ (spaced (numsOf r) ++ [32])
def lineT (r : Rec) : List UInt8 := frontT r ++ 35 :: (dd (sumT (frontT r)) ++ [10])
/-- What Line returns. -/
def lineF (r : Rec) : List UInt8 × Int := if CanW r then (lineT r, 0) else ([], 1)

/-! the words between spaces -/
def fld : List UInt8 → List (List UInt8)
  | [] => [[]]
  | c :: l => if c = 32 then [] :: fld l else match fld l with
    | [] => [[c]]
    | w :: ws => (c :: w) :: ws
theorem fld_app {w l : List UInt8} (h : ∀ c ∈ w, c ≠ 32) : fld (w ++ 32 :: l) = w :: fld l := by
  induction w with
  | nil => simp [fld]
  | cons c w ih =>
    have hc : c ≠ 32 := h c (by simp)
    rw [List.cons_append, fld, if_neg hc, ih (fun d hd => h d (by simp [hd]))]
theorem dd_mem {n : Nat} {c : UInt8} (h : c ∈ dd n) : 48 ≤ c.toNat ∧ c.toNat ≤ 57 := by
  have h1 := dd_all n
  rw [List.all_eq_true] at h1
  have := h1 c h
  unfold isDig at this
  simpa using this
theorem dd_no {n : Nat} {c : UInt8} (h : c ∈ dd n) (k : UInt8) (hk : k.toNat < 48) : c ≠ k := fun e => by
  have := (dd_mem h).1
  rw [e] at this
  omega
theorem word_all (k : Nat) : (wordK k).all (fun c => decide (97 ≤ c.toNat)) = true := by unfold wordK; split <;> rfl
theorem word_mem {k : Nat} {c : UInt8} (h : c ∈ wordK k) : 97 ≤ c.toNat := by
  have := List.all_eq_true.1 (word_all k) c h
  simpa using this
theorem word_no {k : Nat} {c : UInt8} (h : c ∈ wordK k) (x : UInt8) (hx : x.toNat < 97) : c ≠ x := fun e => by
  have := word_mem h
  rw [e] at this
  omega
theorem fld_nums : ∀ l : List Int, fld (spaced l ++ [32]) = [] :: (l.map (fun z => dd z.toNat) ++ [[]])
  | [] => rfl
  | z :: l => by
    have e : spaced (z :: l) ++ [32] = 32 :: (dd z.toNat ++ (spaced l ++ [32])) := by simp [spaced]
    have hne : ∃ m, spaced l ++ [32] = 32 :: m := by
      cases l with
      | nil => exact ⟨[], rfl⟩
      | cons y l => exact ⟨dd y.toNat ++ (spaced l ++ [32]), by simp [spaced]⟩
    obtain ⟨m, hm⟩ := hne
    have ih := fld_nums l
    rw [e, fld, if_pos rfl, hm, fld_app (fun c hc => dd_no hc 32 (by decide))]
    rw [hm, fld, if_pos rfl] at ih
    rw [List.map_cons, List.cons_append, (List.cons.inj ih).2]
/-- The words of the front of a line. -/
theorem fld_front (r : Rec) : fld (frontT r) = wordK r.kind :: ((numsOf r).map (fun z => dd z.toNat) ++ [[]]) := by
  have h := fld_nums (numsOf r)
  have hne : ∃ m, spaced (numsOf r) ++ [32] = 32 :: m := by
    cases numsOf r with
    | nil => exact ⟨[], rfl⟩
    | cons y l => exact ⟨dd y.toNat ++ (spaced l ++ [32]), by simp [spaced]⟩
  obtain ⟨m, hm⟩ := hne
  unfold frontT
  rw [hm, fld_app (fun c hc => word_no hc 32 (by decide))]
  rw [hm, fld, if_pos rfl] at h
  rw [(List.cons.inj h).2]
/-- The bytes of the front. -/
theorem front_mem {r : Rec} {c : UInt8} (h : c ∈ frontT r) : c = 32 ∨ (48 ≤ c.toNat ∧ c.toNat ≤ 57) ∨ 97 ≤ c.toNat := by
  unfold frontT spaced at h
  simp only [List.mem_append, List.mem_flatMap, List.mem_cons, List.not_mem_nil, or_false] at h
  rcases h with h | ⟨z, _, h | h⟩ | h
  · exact .inr (.inr (word_mem h))
  · exact .inl h
  · exact .inr (.inl (dd_mem h))
  · exact .inl h
theorem front_no {r : Rec} {c : UInt8} (h : c ∈ frontT r) : c ≠ 35 ∧ c ≠ 10 := by
  rcases front_mem h with h | h | h
  · subst h; decide
  · exact ⟨fun e => by subst e; simp at h, fun e => by subst e; simp at h⟩
  · exact ⟨fun e => by subst e; simp at h, fun e => by subst e; simp at h⟩
/-- A list that ends ahead of the first c. -/
theorem upto_inj {c : UInt8} : ∀ {l m a b : List UInt8}, (∀ x ∈ l, x ≠ c) → (∀ x ∈ m, x ≠ c) → l ++ c :: a = m ++ c :: b → l = m ∧ a = b
  | [], [], a, b, _, _, h => ⟨rfl, (List.cons.inj h).2⟩
  | [], y :: m, a, b, _, hm, h => by
    rw [List.nil_append, List.cons_append] at h
    exact absurd (List.cons.inj h).1.symm (hm y (by simp))
  | x :: l, [], a, b, hl, _, h => by
    rw [List.nil_append, List.cons_append] at h
    exact absurd (List.cons.inj h).1 (hl x (by simp))
  | x :: l, y :: m, a, b, hl, hm, h => by
    rw [List.cons_append, List.cons_append] at h
    obtain ⟨e1, e2⟩ := List.cons.inj h
    obtain ⟨e3, e4⟩ := upto_inj (fun z hz => hl z (by simp [hz])) (fun z hz => hm z (by simp [hz])) e2
    exact ⟨by rw [e1, e3], e4⟩
theorem line_front {r r' : Rec} (h : lineT r = lineT r') : frontT r = frontT r' := (upto_inj (fun _ hx => (front_no hx).1) (fun _ hx => (front_no hx).1) h).1
theorem word_inj {k k' : Nat} (h1 : 1 ≤ k) (h2 : k ≤ 5) (h3 : 1 ≤ k') (h4 : k' ≤ 5) (h : wordK k = wordK k') : k = k' := by
  have key : ∀ a, a < 6 → ∀ b, b < 6 → 1 ≤ a → 1 ≤ b → wordK a = wordK b → a = b := by decide
  exact key k (by omega) k' (by omega) h1 h3 h
theorem Bare.kind {r : Rec} (h : Bare r) : 1 ≤ r.kind ∧ r.kind ≤ 5 := by
  unfold Bare at h
  split at h <;> first | omega | exact h.elim
theorem nums_inj {l m : List Int} (hl : ∀ z ∈ l, InR z) (hm : ∀ z ∈ m, InR z) (h : l.map (fun z => dd z.toNat) = m.map (fun z => dd z.toNat)) : l = m := by
  induction l generalizing m with
  | nil => cases m with
    | nil => rfl
    | cons y m => simp at h
  | cons x l ih => cases m with
    | nil => simp at h
    | cons y m =>
      rw [List.map_cons, List.map_cons] at h
      obtain ⟨e1, e2⟩ := List.cons.inj h
      have hx := hl x (by simp)
      have hy := hm y (by simp)
      have e3 : x.toNat = y.toNat := by rw [← dd_val x.toNat, e1, dd_val]
      have e4 : x = y := by unfold InR at hx hy; omega
      rw [e4, ih (fun z hz => hl z (by simp [hz])) (fun z hz => hm z (by simp [hz])) e2]
theorem steps_inj : ∀ {l m : List Stp} {a b : List Int}, l.length = m.length → l.flatMap stepL ++ a = m.flatMap stepL ++ b → l = m ∧ a = b
  | [], [], a, b, _, h => ⟨rfl, h⟩
  | [], y :: m, _, _, h, _ => by simp at h
  | x :: l, [], _, _, h, _ => by simp at h
  | x :: l, y :: m, a, b, h, e => by
    simp only [List.flatMap_cons, stepL, List.cons_append, List.nil_append, List.cons.injEq] at e
    obtain ⟨e1, e2, e3, e4, e5⟩ := e
    obtain ⟨e6, e7⟩ := steps_inj (by simpa using h) e5
    have : x = y := by
      obtain ⟨k, p, q, v⟩ := x
      obtain ⟨k', p', q', v'⟩ := y
      simp only at e1 e2 e3 e4
      have : k = k' := by omega
      subst this e2 e3 e4
      rfl
    exact ⟨by rw [this, e6], e7⟩
theorem after_inj : ∀ {l m : List (List Int)} {a b : List Int}, l.length = m.length → l.flatMap lenL ++ a = m.flatMap lenL ++ b → l = m ∧ a = b
  | [], [], a, b, _, h => ⟨rfl, h⟩
  | [], y :: m, _, _, h, _ => by simp at h
  | x :: l, [], _, _, h, _ => by simp at h
  | x :: l, y :: m, a, b, h, e => by
    simp only [List.flatMap_cons, lenL, List.cons_append, List.append_assoc, List.cons.injEq] at e
    obtain ⟨e1, e2⟩ := e
    have hl : x.length = y.length := by omega
    obtain ⟨e3, e4⟩ := List.append_inj e2 hl
    obtain ⟨e6, e7⟩ := after_inj (by simpa using h) e4
    exact ⟨by rw [e3, e6], e7⟩
theorem planned_inj {l m : List Stp} {a b : List (List Int)} (h1 : a.length = l.length) (h2 : b.length = m.length) (h : planned l a = planned m b) : l = m ∧ a = b := by
  unfold planned at h
  obtain ⟨e1, e2⟩ := List.cons.inj h
  have hl : l.length = m.length := by omega
  obtain ⟨e3, e4⟩ := steps_inj hl e2
  have e5 : a.flatMap lenL ++ [] = b.flatMap lenL ++ [] := by rw [List.append_nil, List.append_nil, e4]
  exact ⟨e3, (after_inj (by omega) e5).1⟩
/-- A line is the line of one record only. -/
theorem line_inj {r r' : Rec} (h : CanW r) (h' : CanW r') (e : lineT r = lineT r') : r = r' := by
  have ef := line_front e
  have e1 := fld_front r
  rw [ef, fld_front r'] at e1
  obtain ⟨e2, e3⟩ := List.cons.inj e1
  have hk := h.1.1.kind
  have hk' := h'.1.1.kind
  have ek : r'.kind = r.kind := word_inj hk'.1 hk'.2 hk.1 hk.2 e2
  have en : numsOf r' = numsOf r := nums_inj h'.2 h.2 (List.append_cancel_right e3)
  obtain ⟨k, p, i, l, a, ss, az⟩ := r
  obtain ⟨k', p', i', l', a', ss', az'⟩ := r'
  simp only at ek
  subst ek
  have hb := h.1.1
  have hb' := h'.1.1
  unfold Bare at hb hb'
  unfold numsOf at en
  simp only at hb hb' en hk
  match k', hk, hb, hb', en with
  | 1, _, hb, hb', en =>
    simp only at hb hb' en
    obtain ⟨e5, e6⟩ := planned_inj hb'.2.2.1 hb.2.2.1 en
    simp_all
  | 2, _, hb, hb', en => simp_all
  | 3, _, hb, hb', en =>
    simp only at hb hb' en
    have : a' = a := by simp at en; omega
    simp_all
  | 4, _, hb, hb', en => simp_all
  | 5, _, hb, hb', en => simp_all
  | 0, hk, _, _, _ => omega
  | n + 6, hk, _, _, _ => omega
end Go.Proofs.YtpaoeeamlinaaaaDoor

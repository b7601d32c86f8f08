/- Contracts of library functions at this dump, laid by the kit's shelf.
   Walks of package lexis: classes of bytes, and the longest front of a class.
   Walks of package lexis: idle (the length of blanks and remarks).
   Walks of package lexis: the token at the front of a text. -/
import Derived.Shelf.Strings.OnBuilder
import Derived.Shelf.Small.Strs
import Derived.Shelf.Strconv.Atoi
import Derived.Shelf.LaysM
import Derived.Shelf.Strconv.Clone
import Derived.Shelf.LaysC
import Derived.Shelf.Strings.Prefix
import Derived.Test.YtnifndolopnbfaaDoorProg
import Derived.Test.YtnifndolopnbfaaDoorK02
import Derived.Shelf.Abstract
import Derived.Lib.AtoiErrMem
set_option linter.unusedVariables false
namespace Go.Proofs
open Go.Shelf
def Tryd.lays156_ren : Go.Shelf.Ren := ⟨fun | 156 => 22 | 165 => 33 | 166 => 34 | 169 => 35 | 240 => 46 | 241 => 47 | 276 => 53 | 277 => 54 | n => n, fun | 31 => 36 | 9 => 9 | 3 => 3 | 4 => 4 | 0 => 0 | 20 => 20 | 72 => 54 | 76 => 58 | 70 => 51 | 37 => 52 | 75 => 57 | 127 => 63 | 164 => 66 | 5 => 5 | 80 => 60 | n => n, fun | n => n⟩
theorem Tryd.lays156 : Go.Proofs.Lays.n156 Tryd.prog Tryd.lays156_ren := {
  mixed := by kernel_rfl
  f156 := Tryd.func22.trans (congrArg some (by kernel_rfl))
  f165 := Tryd.func33.trans (congrArg some (by kernel_rfl))
  f166 := Tryd.func34.trans (congrArg some (by kernel_rfl))
  f169 := Tryd.func35.trans (congrArg some (by kernel_rfl))
  f240 := Tryd.func46.trans (congrArg some (by kernel_rfl))
  f241 := Tryd.func47.trans (congrArg some (by kernel_rfl))
  f276 := Tryd.func53.trans (congrArg some (by kernel_rfl))
  f277 := Tryd.func54.trans (congrArg some (by kernel_rfl))
  t0 := Tryd.underlying0
  a0 := Tryd.isAgg0
  z0 := Tryd.sizeOf0
  v0 := Tryd.zeroValue0
  t3 := Tryd.underlying3
  a3 := Tryd.isAgg3
  z3 := Tryd.sizeOf3
  v3 := Tryd.zeroValue3
  t4 := Tryd.underlying4
  a4 := Tryd.isAgg4
  z4 := Tryd.sizeOf4
  v4 := Tryd.zeroValue4
  t9 := Tryd.underlying9
  a9 := Tryd.isAgg9
  z9 := Tryd.sizeOf9
  v9 := Tryd.zeroValue9
  t20 := Tryd.underlying20
  a20 := Tryd.isAgg20
  z20 := Tryd.sizeOf20
  v20 := Tryd.zeroValue20
  t31 := Tryd.underlying36
  a31 := Tryd.isAgg36
  z31 := Tryd.sizeOf36
  v31 := Tryd.zeroValue36
  t37 := Tryd.underlying52
  a37 := Tryd.isAgg52
  z37 := Tryd.sizeOf52
  v37 := Tryd.zeroValue52
  t70 := Tryd.underlying51
  a70 := Tryd.isAgg51
  z70 := Tryd.sizeOf51
  v70 := Tryd.zeroValue51
  t72 := Tryd.underlying54
  a72 := Tryd.isAgg54
  z72 := Tryd.sizeOf54
  v72 := Tryd.zeroValue54
  t75 := Tryd.underlying57
  a75 := Tryd.isAgg57
  z75 := Tryd.sizeOf57
  v75 := Tryd.zeroValue57
  t76 := Tryd.underlying58
  a76 := Tryd.isAgg58
  z76 := Tryd.sizeOf58
  v76 := Tryd.zeroValue58
  t127 := Tryd.underlying63
  a127 := Tryd.isAgg63
  z127 := Tryd.sizeOf63
  v127 := Tryd.zeroValue63
  t164 := Tryd.underlying66
  a164 := Tryd.isAgg66
  z164 := Tryd.sizeOf66
  v164 := Tryd.zeroValue66 }
theorem Tryd.Builder_Extra_156 : Builder.Extra Tryd.prog Tryd.lays156_ren := {
  sizeBuilder := by kernel_rfl
  liesBuilder := by kernel_rfl
  t5 := Tryd.underlying5
  a5 := Tryd.isAgg5
  z5 := Tryd.sizeOf5
  v5 := Tryd.zeroValue5
  infoByte := by kernel_rfl
  cellsByte := by kernel_rfl
  sizeByte := by kernel_rfl
  neB5 := by decide }
open Go.RowKit in
/-- strings.Join: "Join concatenates the elements of its first argument to create a single string. The separator string sep is placed between elements in the resulting string.": HOWEVER MANY ELEMENTS. Below the heap's end the world is as it was. (LAID: no walk: one application.) -/
theorem Tryd.strings_Join (bk o c : Nat) (xs : List ByteArray) (sep : ByteArray) (w : World) (hcells : ∀ (j : Nat) x, xs[j]? = some x → w.cell? ⟨bk, o + j, none⟩ = some (.string x)) (hbk : bk < w.heap.size) (hN : xs.length ≤ 140737488355328) (hcap : xs.length ≤ c) (hlen : (Lib.join (xs.map (·.data.toList)) sep.data.toList).length ≤ 140737488355328) :
    Calls Tryd.prog 22 #[.slice (some ⟨bk, o, none⟩) xs.length c, .string sep] w fun e w' => e = .returned (.string ⟨(Lib.join (xs.map (·.data.toList)) sep.data.toList).toArray⟩) ∧ Below w.heap.size w w' := Any.strings_Join Tryd.lays156 Tryd.Builder_Extra_156 bk o c xs sep w hcells hbk hN hcap hlen
def Tryd.lays137_ren : Go.Shelf.Ren := ⟨fun | 137 => 48 | 217 => 55 | 266 => 61 | n => n, fun | 9 => 9 | 5 => 5 | 3 => 3 | n => n, fun | n => n⟩
theorem Tryd.lays137 : Go.Proofs.Lays.n137 Tryd.prog Tryd.lays137_ren := {
  mixed := by kernel_rfl
  f137 := Tryd.func48.trans (congrArg some (by kernel_rfl))
  f217 := Tryd.func55.trans (congrArg some (by kernel_rfl))
  f266 := Tryd.func61.trans (congrArg some (by kernel_rfl))
  t3 := Tryd.underlying3
  a3 := Tryd.isAgg3
  z3 := Tryd.sizeOf3
  v3 := Tryd.zeroValue3
  t5 := Tryd.underlying5
  a5 := Tryd.isAgg5
  z5 := Tryd.sizeOf5
  v5 := Tryd.zeroValue5
  t9 := Tryd.underlying9
  a9 := Tryd.isAgg9
  z9 := Tryd.sizeOf9
  v9 := Tryd.zeroValue9 }
open Go.RowKit in
/-- strings.IndexByte: "IndexByte returns the index of the first instance of c in s, or -1 if c is not present in s.": IT RETURNS 'Lib.indexByte s c'; the world is as it was. (LAID: no walk: one application.) -/
theorem Tryd.strings_IndexByte (s : ByteArray) (c : Int) (w : World) :
    Calls Tryd.prog 48 #[.string s, .int .u8 c] w fun e w' => e = .returned (.int .i64 (Lib.indexByte s.data.toList c.toNat.toUInt8)) ∧ w' = w := Any.strings_IndexByte Tryd.lays137 s c w
def Tryd.lays172_ren : Go.Shelf.Ren := ⟨fun | 172 => 44 | 244 => 51 | 245 => 52 | 247 => 56 | 279 => 57 | 280 => 58 | 281 => 59 | 282 => 60 | 287 => 62 | 316 => 50 | 171 => 64 | 205 => 63 | 321 => 65 | 322 => 66 | 243 => 67 | 246 => 68 | 283 => 69 | 284 => 70 | 285 => 71 | 286 => 72 | 129 => 74 | 317 => 73 | 318 => 75 | 319 => 76 | 320 => 77 | 337 => 78 | 338 => 79 | n => n, fun | 9 => 9 | 3 => 3 | 75 => 57 | 76 => 58 | 4 => 4 | 5 => 5 | 167 => 69 | 37 => 52 | 0 => 0 | 85 => 70 | 2 => 2 | 168 => 72 | 53 => 75 | 175 => 76 | 46 => 78 | 210 => 80 | 127 => 63 | 145 => 86 | 143 => 84 | 21 => 21 | 171 => 88 | 173 => 91 | 212 => 95 | 51 => 96 | 20 => 20 | 213 => 97 | 232 => 101 | 233 => 102 | 80 => 60 | n => n, fun | 15 => 1 | 16 => 2 | 17 => 3 | 18 => 4 | 19 => 5 | n => n⟩
theorem Tryd.lays172 : Go.Proofs.Lays.n172 Tryd.prog Tryd.lays172_ren := {
  mixed := by kernel_rfl
  f129 := Tryd.func74.trans (congrArg some (by kernel_rfl))
  f171 := Tryd.func64.trans (congrArg some (by kernel_rfl))
  f172 := Tryd.func44.trans (congrArg some (by kernel_rfl))
  f205 := Tryd.func63.trans (congrArg some (by kernel_rfl))
  f243 := Tryd.func67.trans (congrArg some (by kernel_rfl))
  f244 := Tryd.func51.trans (congrArg some (by kernel_rfl))
  f245 := Tryd.func52.trans (congrArg some (by kernel_rfl))
  f246 := Tryd.func68.trans (congrArg some (by kernel_rfl))
  f247 := Tryd.func56.trans (congrArg some (by kernel_rfl))
  f279 := Tryd.func57.trans (congrArg some (by kernel_rfl))
  f280 := Tryd.func58.trans (congrArg some (by kernel_rfl))
  f281 := Tryd.func59.trans (congrArg some (by kernel_rfl))
  f282 := Tryd.func60.trans (congrArg some (by kernel_rfl))
  f283 := Tryd.func69.trans (congrArg some (by kernel_rfl))
  f284 := Tryd.func70.trans (congrArg some (by kernel_rfl))
  f285 := Tryd.func71.trans (congrArg some (by kernel_rfl))
  f286 := Tryd.func72.trans (congrArg some (by kernel_rfl))
  f287 := Tryd.func62.trans (congrArg some (by kernel_rfl))
  f316 := Tryd.func50.trans (congrArg some (by kernel_rfl))
  f317 := Tryd.func73.trans (congrArg some (by kernel_rfl))
  f318 := Tryd.func75.trans (congrArg some (by kernel_rfl))
  f319 := Tryd.func76.trans (congrArg some (by kernel_rfl))
  f320 := Tryd.func77.trans (congrArg some (by kernel_rfl))
  f321 := Tryd.func65.trans (congrArg some (by kernel_rfl))
  f322 := Tryd.func66.trans (congrArg some (by kernel_rfl))
  f337 := Tryd.func78.trans (congrArg some (by kernel_rfl))
  f338 := Tryd.func79.trans (congrArg some (by kernel_rfl))
  t0 := Tryd.underlying0
  a0 := Tryd.isAgg0
  z0 := Tryd.sizeOf0
  v0 := Tryd.zeroValue0
  t2 := Tryd.underlying2
  a2 := Tryd.isAgg2
  z2 := Tryd.sizeOf2
  v2 := Tryd.zeroValue2
  t3 := Tryd.underlying3
  a3 := Tryd.isAgg3
  z3 := Tryd.sizeOf3
  v3 := Tryd.zeroValue3
  t4 := Tryd.underlying4
  a4 := Tryd.isAgg4
  z4 := Tryd.sizeOf4
  v4 := Tryd.zeroValue4
  t5 := Tryd.underlying5
  a5 := Tryd.isAgg5
  z5 := Tryd.sizeOf5
  v5 := Tryd.zeroValue5
  t9 := Tryd.underlying9
  a9 := Tryd.isAgg9
  z9 := Tryd.sizeOf9
  v9 := Tryd.zeroValue9
  t20 := Tryd.underlying20
  a20 := Tryd.isAgg20
  z20 := Tryd.sizeOf20
  v20 := Tryd.zeroValue20
  t21 := Tryd.underlying21
  a21 := Tryd.isAgg21
  z21 := Tryd.sizeOf21
  v21 := Tryd.zeroValue21
  t37 := Tryd.underlying52
  a37 := Tryd.isAgg52
  z37 := Tryd.sizeOf52
  v37 := Tryd.zeroValue52
  t46 := Tryd.underlying78
  a46 := Tryd.isAgg78
  z46 := Tryd.sizeOf78
  v46 := Tryd.zeroValue78
  t51 := Tryd.underlying96
  a51 := Tryd.isAgg96
  z51 := Tryd.sizeOf96
  v51 := Tryd.zeroValue96
  t53 := Tryd.underlying75
  a53 := Tryd.isAgg75
  z53 := Tryd.sizeOf75
  v53 := Tryd.zeroValue75
  t75 := Tryd.underlying57
  a75 := Tryd.isAgg57
  z75 := Tryd.sizeOf57
  v75 := Tryd.zeroValue57
  t76 := Tryd.underlying58
  a76 := Tryd.isAgg58
  z76 := Tryd.sizeOf58
  v76 := Tryd.zeroValue58
  t85 := Tryd.underlying70
  a85 := Tryd.isAgg70
  z85 := Tryd.sizeOf70
  v85 := Tryd.zeroValue70
  t127 := Tryd.underlying63
  a127 := Tryd.isAgg63
  z127 := Tryd.sizeOf63
  v127 := Tryd.zeroValue63
  t143 := Tryd.underlying84
  a143 := Tryd.isAgg84
  z143 := Tryd.sizeOf84
  v143 := Tryd.zeroValue84
  t145 := Tryd.underlying86
  a145 := Tryd.isAgg86
  z145 := Tryd.sizeOf86
  v145 := Tryd.zeroValue86
  t167 := Tryd.underlying69
  a167 := Tryd.isAgg69
  z167 := Tryd.sizeOf69
  v167 := Tryd.zeroValue69
  t168 := Tryd.underlying72
  a168 := Tryd.isAgg72
  z168 := Tryd.sizeOf72
  v168 := Tryd.zeroValue72
  t171 := Tryd.underlying88
  a171 := Tryd.isAgg88
  z171 := Tryd.sizeOf88
  v171 := Tryd.zeroValue88
  t173 := Tryd.underlying91
  a173 := Tryd.isAgg91
  z173 := Tryd.sizeOf91
  v173 := Tryd.zeroValue91
  t175 := Tryd.underlying76
  a175 := Tryd.isAgg76
  z175 := Tryd.sizeOf76
  v175 := Tryd.zeroValue76
  t210 := Tryd.underlying80
  a210 := Tryd.isAgg80
  z210 := Tryd.sizeOf80
  v210 := Tryd.zeroValue80
  t212 := Tryd.underlying95
  a212 := Tryd.isAgg95
  z212 := Tryd.sizeOf95
  v212 := Tryd.zeroValue95
  t213 := Tryd.underlying97
  a213 := Tryd.isAgg97
  z213 := Tryd.sizeOf97
  t232 := Tryd.underlying101
  a232 := Tryd.isAgg101
  z232 := Tryd.sizeOf101
  v232 := Tryd.zeroValue101
  t233 := Tryd.underlying102
  a233 := Tryd.isAgg102
  z233 := Tryd.sizeOf102
  v233 := Tryd.zeroValue102
  g15 := by kernel_rfl
  g16 := by kernel_rfl
  g17 := by kernel_rfl
  g18 := by kernel_rfl
  g19 := by kernel_rfl }
open Go.RowKit in
/-- strconv.Atoi: "Atoi is equivalent to ParseInt(s, 10, 0), converted to type int.": AT A DECIMAL NUMERAL OF AT MOST 18 BYTES: its value, and a nil error. The world behind the call: the one new row that the library's '[]byte(s)' lays. (LAID: no walk: one application.) -/
theorem Tryd.strconv_Atoi (s : ByteArray) (n : Int) (hl : s.size ≤ 18) (h : Lib.atoi s.data.toList = some n) (w : World) :
    Calls Tryd.prog 44 #[.string s] w fun e w' => e = .returned (.tuple #[.int .i64 n, .nilIface]) ∧ ∃ t, w' = Lib.bytesWorld w 5 t := Any.strconv_Atoi Tryd.lays172 s n hl h w
def Tryd.laysM316_ren : Go.Shelf.Ren := ⟨fun | 316 => 50 | n => n, fun | 9 => 9 | 3 => 3 | 4 => 4 | 37 => 52 | 0 => 0 | 127 => 63 | 5 => 5 | n => n, fun | n => n⟩
theorem Tryd.laysM316 : Go.Proofs.LaysM.n316 Tryd.prog Tryd.laysM316_ren := {
  mixed := by kernel_rfl
  f316 := Tryd.func50.trans (congrArg some (by kernel_rfl))
  t0 := Tryd.underlying0
  a0 := Tryd.isAgg0
  z0 := Tryd.sizeOf0
  v0 := Tryd.zeroValue0
  t3 := Tryd.underlying3
  a3 := Tryd.isAgg3
  z3 := Tryd.sizeOf3
  v3 := Tryd.zeroValue3
  t4 := Tryd.underlying4
  a4 := Tryd.isAgg4
  z4 := Tryd.sizeOf4
  v4 := Tryd.zeroValue4
  t9 := Tryd.underlying9
  a9 := Tryd.isAgg9
  z9 := Tryd.sizeOf9
  v9 := Tryd.zeroValue9
  t37 := Tryd.underlying52
  a37 := Tryd.isAgg52
  z37 := Tryd.sizeOf52
  v37 := Tryd.zeroValue52
  t127 := Tryd.underlying63
  a127 := Tryd.isAgg63
  z127 := Tryd.sizeOf63
  v127 := Tryd.zeroValue63
  t5 := Tryd.underlying5
  a5 := Tryd.isAgg5
  z5 := Tryd.sizeOf5
  v5 := Tryd.zeroValue5
  i0 := by kernel_rfl
  i3 := by kernel_rfl
  i4 := by kernel_rfl
  i5 := by kernel_rfl
  i9 := by kernel_rfl
  i37 := by kernel_rfl
  i127 := by kernel_rfl }
open Go.RowKit in
/-- internal/stringslite.Clone (what strings.Clone calls): "Clone returns a fresh copy of s.": THE SAME BYTES. Of what was there nothing has turned (a new row is laid, and frozen, where s is not empty). (LAID: no walk: one application.) -/
theorem Tryd.stringslite_Clone (s : ByteArray) (w : World) (hlim : s.size ≤ 281474976710656) :
    Calls Tryd.prog 50 #[.string s] w fun e w' => e = .returned (.string s) ∧ Below w.heap.size w w' := Any.stringslite_Clone Tryd.laysM316 s w hlim
def Tryd.lays99_ren : Go.Shelf.Ren := ⟨fun | 99 => 38 | 206 => 49 | n => n, fun | 9 => 9 | 4 => 4 | 3 => 3 | n => n, fun | n => n⟩
theorem Tryd.lays99 : Go.Proofs.Lays.n99 Tryd.prog Tryd.lays99_ren := {
  mixed := by kernel_rfl
  f99 := Tryd.func38.trans (congrArg some (by kernel_rfl))
  f206 := Tryd.func49.trans (congrArg some (by kernel_rfl))
  t3 := Tryd.underlying3
  a3 := Tryd.isAgg3
  z3 := Tryd.sizeOf3
  v3 := Tryd.zeroValue3
  t4 := Tryd.underlying4
  a4 := Tryd.isAgg4
  z4 := Tryd.sizeOf4
  v4 := Tryd.zeroValue4
  t9 := Tryd.underlying9
  a9 := Tryd.isAgg9
  z9 := Tryd.sizeOf9
  v9 := Tryd.zeroValue9 }
open Go.RowKit Go.Lib in
/-- strings.HasPrefix: "HasPrefix reports whether the string s begins with prefix.": IT RETURNS 'Lib.hasPrefix s prefix'; the world is as it was. (LAID: no walk: one application.) -/
theorem Tryd.strings_HasPrefix (s p : ByteArray) (w : World) :
    Calls Tryd.prog 38 #[.string s, .string p] w fun e w' => e = .returned (.bool (Lib.hasPrefix s.data.toList p.data.toList)) ∧ w' = w := Any.strings_HasPrefix Tryd.lays99 s p w
end Go.Proofs

namespace Go.Proofs.YtnifndolopnbfaaDoor
open Go.RowKit Go.Shelf

/-- Called at a byte it says whether p, and nothing turns. -/
def Class (f : Nat) (p : UInt8 → Bool) : Prop := (∀ args w, (callFunc f args).run Tryd.prog w = .ok (.enter f args) w) ∧ ∀ (c : UInt8) (w : World), Calls Tryd.prog f #[.int .u8 (c.toNat : Int)] w fun e w' => e = .returned (.bool (p c)) ∧ w = w'

theorem beq_lit (n m : Nat) : ((n : Int) == (m : Int)) = decide (n = m) := by rw [Bool.eq_iff_iff, beq_iff_eq, decide_eq_true_iff]; omega
theorem bne_lit (n m : Nat) : ((n : Int) != (m : Int)) = decide (n ≠ m) := by rw [Bool.eq_iff_iff, bne_iff_ne, decide_eq_true_iff]; omega
theorem index_c (s : ByteArray) (c : UInt8) (w : World) :
    Calls Tryd.prog 48 #[.string s, .int .u8 (c.toNat : Int)] w fun e w' => e = .returned (.int .i64 (Lib.indexByte s.data.toList c)) ∧ w' = w := by
  have h := Tryd.strings_IndexByte s (c.toNat : Int) w
  have e : ((c.toNat : Int)).toNat.toUInt8 = c := by rw [Int.toNat_natCast]; exact UInt8.ofNat_toNat
  rwa [e] at h
theorem letter_c (c : UInt8) (w : World) : Calls Tryd.prog 40 #[.int .u8 (c.toNat : Int)] w fun e w' => e = .returned (.bool (isLet c)) ∧ w = w' := by
  go_enter Tryd.func40, Tryd.ntmps40
  go_wp2
  all_goals
    go_ret
    exact ⟨ret_bool (by unfold isLet; first | (symm; apply decide_eq_true; omega) | (symm; apply decide_eq_false; omega) | (apply decide_eq_decide.2; omega)), rfl⟩
theorem digit_c (c : UInt8) (w : World) : Calls Tryd.prog 43 #[.int .u8 (c.toNat : Int)] w fun e w' => e = .returned (.bool (isDig c)) ∧ w = w' := by
  go_enter Tryd.func43, Tryd.ntmps43
  go_wp2
  all_goals
    go_ret
    exact ⟨ret_bool (by unfold isDig; first | (symm; apply decide_eq_true; omega) | (symm; apply decide_eq_false; omega) | (apply decide_eq_decide.2; omega)), rfl⟩
theorem inside_c (c : UInt8) (w : World) : Calls Tryd.prog 41 #[.int .u8 (c.toNat : Int)] w fun e w' => e = .returned (.bool (isIns c)) ∧ w = w' := by
  cases h1 : isLet c <;> cases h2 : isDig c
  all_goals
    go_enter Tryd.func41, Tryd.ntmps41
    go_wp2_with (first
      | (go_at_call 40; refine (letter_c c _).mono ?_; rintro e w' ⟨rfl, rfl⟩; rw [h1])
      | (go_at_call 43; refine (digit_c c _).mono ?_; rintro e w' ⟨rfl, rfl⟩; rw [h2]))
    all_goals
      go_ret
      exact ⟨ret_bool (by unfold isIns; rw [h1, h2]; first | rfl | exact beq_lit c.toNat 45), rfl⟩
theorem remark_c (c : UInt8) (w : World) : Calls Tryd.prog 39 #[.int .u8 (c.toNat : Int)] w fun e w' => e = .returned (.bool (isTxt c)) ∧ w = w' := by
  go_enter Tryd.func39, Tryd.ntmps39
  go_wp2
  all_goals
    go_ret
    exact ⟨ret_bool (by unfold isTxt; exact bne_lit c.toNat 10), rfl⟩
theorem blank_c (c : UInt8) (w : World) : Calls Tryd.prog 37 #[.int .u8 (c.toNat : Int)] w fun e w' => e = .returned (.bool (isBlk c)) ∧ w = w' := by
  rw [← index_blk]
  go_enter Tryd.func37, Tryd.ntmps37
  go_wp2_with (go_at_call 48; refine (index_c _ c _).mono ?_; rintro e w' ⟨rfl, rfl⟩)
  all_goals
    go_ret
    exact ⟨ret_bool (by rfl), rfl⟩
theorem sign_c (c : UInt8) (w : World) : Calls Tryd.prog 45 #[.int .u8 (c.toNat : Int)] w fun e w' => e = .returned (.bool (isSgn c)) ∧ w = w' := by
  rw [← index_sgn]
  go_enter Tryd.func45, Tryd.ntmps45
  go_wp2_with (go_at_call 48; refine (index_c _ c _).mono ?_; rintro e w' ⟨rfl, rfl⟩)
  all_goals
    go_ret
    exact ⟨ret_bool (by rfl), rfl⟩
theorem class_inside : Class 41 isIns := ⟨enters_of Tryd.func41 (by kernel_rfl) rfl, inside_c⟩
theorem class_digit : Class 43 isDig := ⟨enters_of Tryd.func43 (by kernel_rfl) rfl, digit_c⟩
theorem class_blank : Class 37 isBlk := ⟨enters_of Tryd.func37 (by kernel_rfl) rfl, blank_c⟩
theorem class_remark : Class 39 isTxt := ⟨enters_of Tryd.func39 (by kernel_rfl) rfl, remark_c⟩

set_option maxHeartbeats 1000000 in
theorem run_c (l : List UInt8) (f : Nat) (p : UInt8 → Bool) (hf : Class f p) (w : World) (hl : l.length ≤ 9223372036854775807) :
    Calls Tryd.prog 36 #[.string (bs l), .func (.func f) #[] #[]] w fun e w' => e = .returned (.string (bs (l.take (runN p l)))) ∧ w = w' := by
  have hs : (bs l).size = l.length := bs_size l
  obtain ⟨ef, hc⟩ := hf
  have HC := Lib.hid hc
  clear hc
  go_enter Tryd.func36, Tryd.ntmps36
  go_wp2
  go_loop [8] (fun i => ∃ k : Nat, k ≤ l.length ∧ i = .int .i64 k ∧ Hid (∀ j (h : j < l.length), j < k → p l[j] = true)) (fun i => l.length - (intOf i).toNat)
  case atStart => exact ⟨0, Nat.zero_le _, rfl, fun j _ h => by omega⟩
  case round =>
    obtain ⟨k, hk, rfl, hin⟩ := hrel
    by_cases hlt : k < l.length
    · have hget : (bs l)[k]'hlt = l[k] := rfl
      by_cases hp : p l[k] = true
      · go_wp2_with fail
        refine (HC.out l[k] _).mono ?_
        rintro e w' ⟨rfl, rfl⟩
        rw [hp]
        go_wp2_with fail
        go_round
        case rel =>
          refine ⟨k + 1, by omega, by go_num, ?_⟩
          intro j h hj
          rcases Nat.lt_or_ge j k with h1 | h1
          · exact hin.out j h h1
          · obtain rfl : j = k := by omega
            exact hp
        case measure => simp [intOf]; omega
      · have hp' : p l[k] = false := by simpa using hp
        have hrun : Hid (runN p l = k) := runN_eq p l k hk (fun i h hi => hin.out i h hi) (fun _ => hp')
        clear hp
        go_wp2_with fail
        refine (HC.out l[k] _).mono ?_
        rintro e w' ⟨rfl, rfl⟩
        rw [hp']
        go_wp2_with fail
        go_ret
        exact ⟨ret_str (by rw [hrun.out]; exact extract_front l k), rfl⟩
    · have hrun : Hid (runN p l = l.length) := runN_eq p l _ (Nat.le_refl _) (fun i h hi => hin.out i h (by omega)) (fun h => by omega)
      go_wp2_with fail
      go_ret
      exact ⟨ret_str (by rw [hrun.out, List.take_length]), rfl⟩
end Go.Proofs.YtnifndolopnbfaaDoor

namespace Go.Proofs.YtnifndolopnbfaaDoor
open Go.RowKit

/-- The length of a string value. -/
def strLen : Value → Nat
  | .string s => s.size
  | _ => 0
theorem strLen_bs (l : List UInt8) : strLen (.string (bs l)) = l.length := rfl
theorem pre_yes {c : UInt8} (h : c.toNat = 35) (m : List UInt8) : Lib.hasPrefix (c :: m) [35] = true := by
  have : c = 35 := UInt8.toNat_inj.1 h
  subst this
  rfl
theorem pre_no {c : UInt8} (h : c.toNat ≠ 35) (m : List UInt8) : Lib.hasPrefix (c :: m) [35] = false := by
  unfold Lib.hasPrefix
  rw [List.isPrefixOf]
  have : (35 == c) = false := beq_eq_false_iff_ne.2 (by rintro rfl; exact h rfl)
  rw [this]; rfl
theorem runN_head (p : UInt8 → Bool) : ∀ (m : List UInt8) (c : UInt8) (t : List UInt8), m.drop (runN p m) = c :: t → p c = false
  | [], c, t, h => by simp at h
  | d :: m, c, t, h => by
    by_cases hd : p d = true
    · rw [runN_pos _ _ _ hd, List.drop_succ_cons] at h
      exact runN_head p m c t h
    · have hd' : p d = false := by simpa using hd
      rw [runN_zero _ _ _ hd', List.drop_zero] at h
      injection h with e _
      subst e; exact hd'
/-- What a look behind the blanks tells. -/
theorem idle_step (l m : List UInt8) (h : skp false m = skp false l) (hm : m.length ≤ l.length) :
    (Lib.hasPrefix (m.drop (runN isBlk m)) [35] = false ∧ (l.length : Int) - ((m.drop (runN isBlk m)).length : Int) = ((idleN l : Nat) : Int)) ∨
    (Lib.hasPrefix (m.drop (runN isBlk m)) [35] = true ∧ skp false ((m.drop (runN isBlk m)).drop (runN isTxt (m.drop (runN isBlk m)))) = skp false l ∧ 0 < (m.drop (runN isBlk m)).length ∧ 0 < runN isTxt (m.drop (runN isBlk m))) := by
  have hr := skp_run m
  rw [h] at hr
  have hh := runN_head isBlk m
  generalize m.drop (runN isBlk m) = m1 at *
  cases m1 with
  | nil =>
    left
    refine ⟨rfl, ?_⟩
    unfold idleN
    rw [← hr, skp_nil]
    simp
  | cons c t =>
    by_cases hc : c.toNat = 35
    · right
      refine ⟨pre_yes hc t, ?_, by simp, by rw [runN_pos _ _ _ (by simp [isTxt, hc])]; omega⟩
      rw [skp_true, skp, if_neg (by omega), ← hr, skp_hash hc]
    · left
      refine ⟨pre_no hc t, ?_⟩
      have e := skp_stop (hh c t rfl) hc t
      rw [e] at hr
      have := skp_len false l
      unfold idleN
      rw [← hr] at this ⊢
      omega

set_option maxHeartbeats 1000000 in
theorem idle_c (l : List UInt8) (w : World) (hl : l.length ≤ 9223372036854775807) :
    Calls Tryd.prog 25 #[.string (bs l)] w fun e w' => e = .returned (.int .i64 ((idleN l : Nat) : Int)) ∧ w = w' := by
  have hs : (bs l).size = l.length := bs_size l
  go_enter Tryd.func25, Tryd.ntmps25
  go_wp2_with fail
  go_loop [3] (fun r => ∃ m : List UInt8, m.length ≤ l.length ∧ r = .string (bs m) ∧ Hid (skp false m = skp false l)) (fun r => strLen r)
  case atStart => exact ⟨l, Nat.le_refl _, rfl, rfl⟩
  case round =>
    obtain ⟨m, hm, rfl, hrel⟩ := hrel
    have hst := idle_step l m hrel.out hm
    have hsm : (bs m).size = m.length := bs_size m
    have hle := runN_le isBlk m
    have hx1 : (bs m).extract (runN isBlk m) m.length = bs (m.drop (runN isBlk m)) := by rw [← hsm]; exact extract_back m _
    have hz1 : (bs (m.take (runN isBlk m))).size = runN isBlk m := by rw [bs_size, List.length_take]; omega
    have hm1 : (m.drop (runN isBlk m)).length ≤ m.length := by rw [List.length_drop]; omega
    obtain ⟨n1, hn1⟩ : ∃ n, runN isBlk m = n := ⟨_, rfl⟩
    rw [hn1] at hst hle hx1 hz1 hm1
    obtain ⟨m1, hm1e⟩ : ∃ x, m.drop n1 = x := ⟨_, rfl⟩
    rw [hm1e] at hst hx1 hm1
    have HN := Lib.hid hn1
    have HE := Lib.hid hm1e
    have HX1 := Lib.hid hx1
    have HZ1 := Lib.hid hz1
    clear hn1 hm1e hx1 hz1
    have hs1 : (bs m1).size = m1.length := bs_size m1
    rcases hst with ⟨hp, hr⟩ | ⟨hp, hr, hpos, hpos2⟩
    · have HP : Hid (Lib.hasPrefix (bs m1).data.toList [35] = false) := hp
      have HR := Lib.hid hr
      clear hp hr
      go_wp2_with fail
      refine (run_c m _ _ class_blank _ (by omega)).mono ?_
      rintro e w' ⟨rfl, rfl⟩
      rw [HN.out]
      have hz1 := HZ1.out
      have hx1 := HX1.out
      go_wp2_with fail
      refine (Tryd.strings_HasPrefix _ _ _).mono ?_
      rintro e w' ⟨rfl, rfl⟩
      rw [HP.out]
      go_wp2_with fail
      go_ret
      exact ⟨ret_int HR.out, rfl⟩
    · have hle2 := runN_le isTxt m1
      have hx2 : (bs m1).extract (runN isTxt m1) m1.length = bs (m1.drop (runN isTxt m1)) := by rw [← hs1]; exact extract_back m1 _
      have hz2 : (bs (m1.take (runN isTxt m1))).size = runN isTxt m1 := by rw [bs_size, List.length_take]; omega
      have hm2 : (m1.drop (runN isTxt m1)).length < m1.length := by rw [List.length_drop]; omega
      obtain ⟨n2, hn2⟩ : ∃ n, runN isTxt m1 = n := ⟨_, rfl⟩
      rw [hn2] at hr hle2 hx2 hz2 hm2
      obtain ⟨m2, hm2e⟩ : ∃ x, m1.drop n2 = x := ⟨_, rfl⟩
      rw [hm2e] at hr hx2 hm2
      have HN2 := Lib.hid hn2
      have HX2 := Lib.hid hx2
      have HZ2 := Lib.hid hz2
      have HP : Hid (Lib.hasPrefix (bs m1).data.toList [35] = true) := hp
      have HR := Lib.hid hr
      clear hp hr hn2 hm2e hx2 hz2
      go_wp2_with fail
      refine (run_c m _ _ class_blank _ (by omega)).mono ?_
      rintro e w' ⟨rfl, rfl⟩
      rw [HN.out]
      have hz1 := HZ1.out
      have hx1 := HX1.out
      go_wp2_with fail
      refine (Tryd.strings_HasPrefix _ _ _).mono ?_
      rintro e w' ⟨rfl, rfl⟩
      rw [HP.out]
      go_wp2_with fail
      refine (run_c m1 _ _ class_remark _ (by omega)).mono ?_
      rintro e w' ⟨rfl, rfl⟩
      rw [HN2.out]
      have hz2 := HZ2.out
      have hx2 := HX2.out
      go_wp2_with fail
      go_round
      case rel => exact ⟨m2, by omega, rfl, HR.out⟩
      case measure => simp only [strLen_bs]; omega
end Go.Proofs.YtnifndolopnbfaaDoor

namespace Go.Proofs.YtnifndolopnbfaaDoor
open Go.RowKit

/-- A token as a value. -/
def aggT (t : Tok) : Value := .agg #[.int .u8 (t.kind : Int), .string (bs t.text), .int .i64 t.num, .int .i64 t.off]
/-- The result is a token and an error; nothing that was there has turned. -/
def RetT (w : World) (r : Tok × Nat) (e : Ending) (w' : World) : Prop := e = .returned (.tuple #[aggT r.1, .int .i64 ((r.2 : Nat) : Int)]) ∧ Below w.heap.size w w'
/-- Four stores into a block of four cells. -/
theorem end_tok {w : World} {b : Nat} {x0 x1 x2 x3 : Value} {t : TypeId} (h : Box w b #[x0, x1, x2, x3] t) (y0 y1 y2 y3 : Value) :
    Box ((((w.setCell ⟨b, 0, none⟩ y0).setCell ⟨b, 1, none⟩ y1).setCell ⟨b, 2, none⟩ y2).setCell ⟨b, 3, none⟩ y3) b #[y0, y1, y2, y3] t := by
  have := (((h.set 0 y0).set 1 y1).set 2 y2).set 3 y3
  simpa using this
theorem below_tok {w W : World} {b : Nat} (h : Below w.heap.size w W) (hb : w.heap.size ≤ b) (y0 y1 y2 y3 : Value) :
    Below w.heap.size w ((((W.setCell ⟨b, 0, none⟩ y0).setCell ⟨b, 1, none⟩ y1).setCell ⟨b, 2, none⟩ y2).setCell ⟨b, 3, none⟩ y3) :=
  (((h.setCell (p := ⟨b, 0, none⟩) hb _).setCell (p := ⟨b, 1, none⟩) hb _).setCell (p := ⟨b, 2, none⟩) hb _).setCell (p := ⟨b, 3, none⟩) hb _
theorem clone_c (s : ByteArray) (w : World) (hl : s.size ≤ 281474976710656) :
    Calls Tryd.prog 42 #[.string s] w fun e w' => e = .returned (.string s) ∧ Below w.heap.size w w' := by
  go_enter Tryd.func42, Tryd.ntmps42
  go_wp2_with (go_at_call 50; refine (Tryd.stringslite_Clone _ _ hl).mono ?_; rintro e w' ⟨rfl, hb⟩)
  go_ret
  exact ⟨rfl, hb⟩
theorem atoi_c (s : ByteArray) (N : Int) (hl : s.size ≤ 18) (h : Lib.atoi s.data.toList = some N) (w : World) :
    Calls Tryd.prog 44 #[.string s] w fun e w' => e = .returned (.tuple #[.int .i64 N, .nilIface]) ∧ Below w.heap.size w w' := by
  refine (Tryd.strconv_Atoi s N hl h w).mono ?_
  rintro e w' ⟨rfl, t, rfl⟩
  exact ⟨rfl, Lib.bytesWorld_below _ _ _⟩
section
variable (c : UInt8) (m : List UInt8)
theorem fst1_n (h1 : isLet c = true) (hn : ¬ 12 < runN isIns (c :: m)) : fst1 (c :: m) = (⟨1, (c :: m).take (runN isIns (c :: m)), 0, 0⟩, 0) := by rw [fst1, if_pos h1, if_neg hn]
theorem fst1_nl (h1 : isLet c = true) (hn : 12 < runN isIns (c :: m)) : fst1 (c :: m) = badT 3 := by rw [fst1, if_pos h1, if_pos hn]
theorem fst1_d0 (h1 : isLet c = false) (h2 : isDig c = true) (h3 : c.toNat = 48) (h4 : 1 < runN isDig (c :: m)) : fst1 (c :: m) = badT 4 := by rw [fst1, h1, if_neg (by simp), if_pos h2, if_pos ⟨h3, h4⟩]
theorem fst1_dl (h1 : isLet c = false) (h2 : isDig c = true) (h3 : ¬ (c.toNat = 48 ∧ 1 < runN isDig (c :: m))) (h4 : 9 < runN isDig (c :: m)) : fst1 (c :: m) = badT 3 := by rw [fst1, h1, if_neg (by simp), if_pos h2, if_neg h3, if_pos h4]
theorem fst1_d (h1 : isLet c = false) (h2 : isDig c = true) (h3 : ¬ (c.toNat = 48 ∧ 1 < runN isDig (c :: m))) (h4 : ¬ 9 < runN isDig (c :: m)) : fst1 (c :: m) = (⟨2, (c :: m).take (runN isDig (c :: m)), numV ((c :: m).take (runN isDig (c :: m))), 0⟩, 0) := by rw [fst1, h1, if_neg (by simp), if_pos h2, if_neg h3, if_neg h4]
theorem fst1_s (h1 : isLet c = false) (h2 : isDig c = false) (h3 : isSgn c = true) : fst1 (c :: m) = (⟨3, [c], 0, 0⟩, 0) := by rw [fst1, h1, if_neg (by simp), h2, if_neg (by simp), if_pos h3]
theorem fst1_x (h1 : isLet c = false) (h2 : isDig c = false) (h3 : isSgn c = false) : fst1 (c :: m) = badT 4 := by rw [fst1, h1, if_neg (by simp), h2, if_neg (by simp), h3, if_neg (by simp)]
end

set_option maxRecDepth 100000 in
set_option maxHeartbeats 1000000 in
theorem first_x (c : UInt8) (m : List UInt8) (w : World) (hl : (c :: m).length ≤ 9223372036854775807) (h1 : isLet c = false) (h2 : isDig c = false) (h3 : isSgn c = false) :
    Calls Tryd.prog 26 #[.string (bs (c :: m))] w (RetT w (badT 4)) := by
  have hs : (bs (c :: m)).size = m.length + 1 := bs_size _
  have hget : ∀ h, (bs (c :: m))[0]'h = c := fun _ => rfl
  go_enter Tryd.func26, Tryd.ntmps26
  go_wp2_with (first
    | (go_at_call 40; refine (letter_c c _).mono ?_; rintro e w' ⟨rfl, rfl⟩; rw [h1])
    | (go_at_call 43; refine (digit_c c _).mono ?_; rintro e w' ⟨rfl, rfl⟩; rw [h2])
    | (go_at_call 45; refine (sign_c c _).mono ?_; rintro e w' ⟨rfl, rfl⟩; rw [h3]))
  exact bodyPost_ret (v := .tuple #[aggT (badT 4).1, .int .i64 4]) (by simp [results, Tryd.results26, go_sem, aggT, badT]; rfl) rfl ⟨rfl, (Below.refl _ _).alloc (Nat.le_refl _) _⟩
set_option maxRecDepth 100000 in
set_option maxHeartbeats 1000000 in
theorem first_s (c : UInt8) (m : List UInt8) (w : World) (hl : (c :: m).length ≤ 9223372036854775807) (h1 : isLet c = false) (h2 : isDig c = false) (h3 : isSgn c = true) :
    Calls Tryd.prog 26 #[.string (bs (c :: m))] w (RetT w (⟨3, [c], 0, 0⟩, 0)) := by
  have hs : (bs (c :: m)).size = m.length + 1 := bs_size _
  have hget : ∀ h, (bs (c :: m))[0]'h = c := fun _ => rfl
  have hext : (bs (c :: m)).extract 0 1 = bs [c] := extract_front _ _
  go_enter Tryd.func26, Tryd.ntmps26
  go_wp2_with (first
    | (go_at_call 40; refine (letter_c c _).mono ?_; rintro e w' ⟨rfl, rfl⟩; rw [h1])
    | (go_at_call 43; refine (digit_c c _).mono ?_; rintro e w' ⟨rfl, rfl⟩; rw [h2])
    | (go_at_call 45; refine (sign_c c _).mono ?_; rintro e w' ⟨rfl, rfl⟩; rw [h3]))
  refine (clone_c (bs [c]) _ (by rw [bs_size]; simp)).mono ?_
  rintro e w1 ⟨rfl, hb⟩
  have bx := (Box.new w #[.int .u8 0, .string ⟨#[]⟩, .int .i64 0, .int .i64 0] 34).after hb
  obtain ⟨r0, r1, r2, r3⟩ := bx.cells4
  have f0 := bx.frozen 0
  have f1 := bx.frozen 1
  have f2 := bx.frozen 2
  have f3 := bx.frozen 3
  have HE := Lib.hid (end_tok bx (.int .u8 3) (.string (bs [c])) (.int .i64 0) (.int .i64 0))
  have HB := Lib.hid (below_tok ((held_alloc (Below.refl _ w)).trans (hb.mono (by simp))) (Nat.le_refl _) (.int .u8 3) (.string (bs [c])) (.int .i64 0) (.int .i64 0))
  clear hb bx
  go_wp2_with fail
  obtain ⟨e0, e1, e2, e3⟩ := HE.out.cells4
  exact bodyPost_ret (v := .tuple #[aggT ⟨3, [c], 0, 0⟩, .int .i64 0]) (by simp [results, Tryd.results26, go_sem, aggT, e0, e1, e2, e3]) rfl ⟨rfl, HB.out⟩
set_option maxRecDepth 100000 in
set_option maxHeartbeats 1000000 in
theorem first_n (c : UInt8) (m : List UInt8) (w : World) (hl : (c :: m).length ≤ 9223372036854775807) (h1 : isLet c = true) (x : List UInt8) (hx : (c :: m).take (runN isIns (c :: m)) = x) (hz : x.length ≤ 12) :
    Calls Tryd.prog 26 #[.string (bs (c :: m))] w (RetT w (⟨1, x, 0, 0⟩, 0)) := by
  have hs : (bs (c :: m)).size = m.length + 1 := bs_size _
  have hget : ∀ h, (bs (c :: m))[0]'h = c := fun _ => rfl
  have hsx : (bs x).size = x.length := bs_size x
  have HX := Lib.hid hx
  clear hx
  go_enter Tryd.func26, Tryd.ntmps26
  go_wp2_with (go_at_call 40; refine (letter_c c _).mono ?_; rintro e w' ⟨rfl, rfl⟩; rw [h1])
  refine (run_c (c :: m) _ _ class_inside _ hl).mono ?_
  rintro e w' ⟨rfl, rfl⟩
  rw [HX.out]
  go_wp2_with fail
  refine (clone_c (bs x) _ (by rw [hsx]; omega)).mono ?_
  rintro e w1 ⟨rfl, hb⟩
  have bx := (Box.new w #[.int .u8 0, .string ⟨#[]⟩, .int .i64 0, .int .i64 0] 34).after hb
  obtain ⟨r0, r1, r2, r3⟩ := bx.cells4
  have f0 := bx.frozen 0
  have f1 := bx.frozen 1
  have f2 := bx.frozen 2
  have f3 := bx.frozen 3
  have HE := Lib.hid (end_tok bx (.int .u8 1) (.string (bs x)) (.int .i64 0) (.int .i64 0))
  have HB := Lib.hid (below_tok ((held_alloc (Below.refl _ w)).trans (hb.mono (by simp))) (Nat.le_refl _) (.int .u8 1) (.string (bs x)) (.int .i64 0) (.int .i64 0))
  clear hb bx
  go_wp2_with fail
  obtain ⟨e0, e1, e2, e3⟩ := HE.out.cells4
  exact bodyPost_ret (v := .tuple #[aggT ⟨1, x, 0, 0⟩, .int .i64 0]) (by simp [results, Tryd.results26, go_sem, aggT, e0, e1, e2, e3]) rfl ⟨rfl, HB.out⟩
set_option maxRecDepth 100000 in
set_option maxHeartbeats 1000000 in
theorem first_nl (c : UInt8) (m : List UInt8) (w : World) (hl : (c :: m).length ≤ 9223372036854775807) (h1 : isLet c = true) (x : List UInt8) (hx : (c :: m).take (runN isIns (c :: m)) = x) (hz : 12 < x.length) (hxl : x.length ≤ 9223372036854775807) :
    Calls Tryd.prog 26 #[.string (bs (c :: m))] w (RetT w (badT 3)) := by
  have hs : (bs (c :: m)).size = m.length + 1 := bs_size _
  have hget : ∀ h, (bs (c :: m))[0]'h = c := fun _ => rfl
  have hsx : (bs x).size = x.length := bs_size x
  have HX := Lib.hid hx
  clear hx
  go_enter Tryd.func26, Tryd.ntmps26
  go_wp2_with (go_at_call 40; refine (letter_c c _).mono ?_; rintro e w' ⟨rfl, rfl⟩; rw [h1])
  refine (run_c (c :: m) _ _ class_inside _ hl).mono ?_
  rintro e w' ⟨rfl, rfl⟩
  rw [HX.out]
  go_wp2_with fail
  exact bodyPost_ret (v := .tuple #[aggT (badT 3).1, .int .i64 3]) (by simp [results, Tryd.results26, go_sem, aggT, badT]; rfl) rfl ⟨rfl, (Below.refl _ _).alloc (Nat.le_refl _) _⟩
set_option maxRecDepth 100000 in
set_option maxHeartbeats 1000000 in
theorem first_d0 (c : UInt8) (m : List UInt8) (w : World) (hl : (c :: m).length ≤ 9223372036854775807) (h1 : isLet c = false) (h2 : isDig c = true) (h3 : c.toNat = 48) (x : List UInt8) (hx : (c :: m).take (runN isDig (c :: m)) = x) (hz : 1 < x.length) (hxl : x.length ≤ 9223372036854775807) :
    Calls Tryd.prog 26 #[.string (bs (c :: m))] w (RetT w (badT 4)) := by
  have hs : (bs (c :: m)).size = m.length + 1 := bs_size _
  have hget : ∀ h, (bs (c :: m))[0]'h = c := fun _ => rfl
  have hsx : (bs x).size = x.length := bs_size x
  have h4 : ((c.toNat : Int) == 48) = true := by simp [h3]
  have HX := Lib.hid hx
  clear hx h3
  go_enter Tryd.func26, Tryd.ntmps26
  go_wp2_with (first
    | (go_at_call 40; refine (letter_c c _).mono ?_; rintro e w' ⟨rfl, rfl⟩; rw [h1])
    | (go_at_call 43; refine (digit_c c _).mono ?_; rintro e w' ⟨rfl, rfl⟩; rw [h2]))
  refine (run_c (c :: m) _ _ class_digit _ hl).mono ?_
  rintro e w' ⟨rfl, rfl⟩
  rw [HX.out]
  go_wp2_with fail
  exact bodyPost_ret (v := .tuple #[aggT (badT 4).1, .int .i64 4]) (by simp [results, Tryd.results26, go_sem, aggT, badT]; rfl) rfl ⟨rfl, (Below.refl _ _).alloc (Nat.le_refl _) _⟩
set_option maxRecDepth 100000 in
set_option maxHeartbeats 1000000 in
theorem first_dl (c : UInt8) (m : List UInt8) (w : World) (hl : (c :: m).length ≤ 9223372036854775807) (h1 : isLet c = false) (h2 : isDig c = true) (h3 : c.toNat ≠ 48) (x : List UInt8) (hx : (c :: m).take (runN isDig (c :: m)) = x) (hz : 9 < x.length) (hxl : x.length ≤ 9223372036854775807) :
    Calls Tryd.prog 26 #[.string (bs (c :: m))] w (RetT w (badT 3)) := by
  have hs : (bs (c :: m)).size = m.length + 1 := bs_size _
  have hget : ∀ h, (bs (c :: m))[0]'h = c := fun _ => rfl
  have hsx : (bs x).size = x.length := bs_size x
  have h4 : ((c.toNat : Int) == 48) = false := by simp; omega
  have HX := Lib.hid hx
  clear hx h3
  go_enter Tryd.func26, Tryd.ntmps26
  go_wp2_with (first
    | (go_at_call 40; refine (letter_c c _).mono ?_; rintro e w' ⟨rfl, rfl⟩; rw [h1])
    | (go_at_call 43; refine (digit_c c _).mono ?_; rintro e w' ⟨rfl, rfl⟩; rw [h2]))
  refine (run_c (c :: m) _ _ class_digit _ hl).mono ?_
  rintro e w' ⟨rfl, rfl⟩
  rw [HX.out]
  go_wp2_with fail
  exact bodyPost_ret (v := .tuple #[aggT (badT 3).1, .int .i64 3]) (by simp [results, Tryd.results26, go_sem, aggT, badT]; rfl) rfl ⟨rfl, (Below.refl _ _).alloc (Nat.le_refl _) _⟩
set_option maxRecDepth 100000 in
set_option maxHeartbeats 1000000 in
theorem first_d (c : UInt8) (m : List UInt8) (w : World) (hl : (c :: m).length ≤ 9223372036854775807) (h1 : isLet c = false) (h2 : isDig c = true) (x : List UInt8) (hx : (c :: m).take (runN isDig (c :: m)) = x) (h3 : ((c.toNat : Int) == 48) = false ∨ x.length ≤ 1) (hz : x.length ≤ 9) :
    Calls Tryd.prog 26 #[.string (bs (c :: m))] w (RetT w (⟨2, x, numV x, 0⟩, 0)) := by
  have hs : (bs (c :: m)).size = m.length + 1 := bs_size _
  have hget : ∀ h, (bs (c :: m))[0]'h = c := fun _ => rfl
  have hsx : (bs x).size = x.length := bs_size x
  have hat : Hid (Lib.atoi (bs x).data.toList = some ((numV x : Nat) : Int)) := by
    show Lib.atoi x = _
    refine atoi_dig (fun d hd => ?_) ?_
    · rw [← hx] at hd; exact runN_take _ _ d hd
    · rw [← hx, runN_pos _ _ _ h2]; simp
  have HX := Lib.hid hx
  obtain ⟨N, hN⟩ : ∃ N : Nat, numV x = N := ⟨_, rfl⟩
  rw [hN] at hat ⊢
  clear hx hN
  have h18 : (bs x).size ≤ 18 := by rw [hsx]; omega
  by_cases h5 : ((c.toNat : Int) == 48) = true
  · have h6 : x.length ≤ 1 := by
      rcases h3 with h4 | h4
      · rw [h5] at h4; cases h4
      · exact h4
    clear h3
    go_enter Tryd.func26, Tryd.ntmps26
    go_wp2_with (first
      | (go_at_call 40; refine (letter_c c _).mono ?_; rintro e w' ⟨rfl, rfl⟩; rw [h1])
      | (go_at_call 43; refine (digit_c c _).mono ?_; rintro e w' ⟨rfl, rfl⟩; rw [h2]))
    refine (run_c (c :: m) _ _ class_digit _ hl).mono ?_
    rintro e w' ⟨rfl, rfl⟩
    rw [HX.out]
    go_wp2_with fail
    refine (atoi_c (bs x) (N : Int) h18 hat.out _).mono ?_
    rintro e w1 ⟨rfl, hb1⟩
    go_wp2_with fail
    refine (clone_c (bs x) _ (by rw [hsx]; omega)).mono ?_
    rintro e w2 ⟨rfl, hb2⟩
    have hb := hb1.trans (hb2.mono hb1.size)
    have bx := (Box.new w #[.int .u8 0, .string ⟨#[]⟩, .int .i64 0, .int .i64 0] 34).after hb
    obtain ⟨r0, r1, r2, r3⟩ := bx.cells4
    have f0 := bx.frozen 0
    have f1 := bx.frozen 1
    have f2 := bx.frozen 2
    have f3 := bx.frozen 3
    have HE := Lib.hid (end_tok bx (.int .u8 2) (.string (bs x)) (.int .i64 (N : Int)) (.int .i64 0))
    have HB := Lib.hid (below_tok ((held_alloc (Below.refl _ w)).trans (hb.mono (by simp))) (Nat.le_refl _) (.int .u8 2) (.string (bs x)) (.int .i64 (N : Int)) (.int .i64 0))
    clear hb hb1 hb2 bx
    go_wp2_with fail
    obtain ⟨e0, e1, e2, e3⟩ := HE.out.cells4
    exact bodyPost_ret (v := .tuple #[aggT ⟨2, x, (N : Int), 0⟩, .int .i64 0]) (by simp [results, Tryd.results26, go_sem, aggT, e0, e1, e2, e3]) rfl ⟨rfl, HB.out⟩
  · have h6 : ((c.toNat : Int) == 48) = false := by simpa using h5
    clear h3 h5
    go_enter Tryd.func26, Tryd.ntmps26
    go_wp2_with (first
      | (go_at_call 40; refine (letter_c c _).mono ?_; rintro e w' ⟨rfl, rfl⟩; rw [h1])
      | (go_at_call 43; refine (digit_c c _).mono ?_; rintro e w' ⟨rfl, rfl⟩; rw [h2]))
    refine (run_c (c :: m) _ _ class_digit _ hl).mono ?_
    rintro e w' ⟨rfl, rfl⟩
    rw [HX.out]
    go_wp2_with fail
    refine (atoi_c (bs x) (N : Int) h18 hat.out _).mono ?_
    rintro e w1 ⟨rfl, hb1⟩
    go_wp2_with fail
    refine (clone_c (bs x) _ (by rw [hsx]; omega)).mono ?_
    rintro e w2 ⟨rfl, hb2⟩
    have hb := hb1.trans (hb2.mono hb1.size)
    have bx := (Box.new w #[.int .u8 0, .string ⟨#[]⟩, .int .i64 0, .int .i64 0] 34).after hb
    obtain ⟨r0, r1, r2, r3⟩ := bx.cells4
    have f0 := bx.frozen 0
    have f1 := bx.frozen 1
    have f2 := bx.frozen 2
    have f3 := bx.frozen 3
    have HE := Lib.hid (end_tok bx (.int .u8 2) (.string (bs x)) (.int .i64 (N : Int)) (.int .i64 0))
    have HB := Lib.hid (below_tok ((held_alloc (Below.refl _ w)).trans (hb.mono (by simp))) (Nat.le_refl _) (.int .u8 2) (.string (bs x)) (.int .i64 (N : Int)) (.int .i64 0))
    clear hb hb1 hb2 bx
    go_wp2_with fail
    obtain ⟨e0, e1, e2, e3⟩ := HE.out.cells4
    exact bodyPost_ret (v := .tuple #[aggT ⟨2, x, (N : Int), 0⟩, .int .i64 0]) (by simp [results, Tryd.results26, go_sem, aggT, e0, e1, e2, e3]) rfl ⟨rfl, HB.out⟩
end Go.Proofs.YtnifndolopnbfaaDoor

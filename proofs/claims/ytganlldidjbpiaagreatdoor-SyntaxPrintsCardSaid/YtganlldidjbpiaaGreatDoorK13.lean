/- Lexis, memory words: a variable that collects tokens in a row of its own; the three results of Tokens.
   Contracts of library functions at this dump, laid by the kit's shelf.
   Walks of package lexis: classes of bytes, and the longest front of a class.
   Walks of package lexis: idle (the length of blanks and remarks). -/
import Derived.Test.YtganlldidjbpiaaGreatDoorK12
import Derived.Test.YtganlldidjbpiaaGreatDoorK03
import Derived.Shelf.Strings.OnBuilder
import Derived.Shelf.Small.Strs
import Derived.Shelf.Strconv.Atoi
import Derived.Shelf.LaysM
import Derived.Shelf.Strconv.Itoa3
import Derived.Shelf.Strconv.Clone
import Derived.Shelf.LaysC
import Derived.Shelf.Strings.Prefix
import Derived.Test.YtganlldidjbpiaaGreatDoorProg
import Derived.Test.YtganlldidjbpiaaGreatDoorK02
import Derived.Shelf.Abstract
set_option linter.unusedVariables false
namespace Go.Proofs.YtganlldidjbpiaaGreatDoor
open Go.RowKit

theorem ownsRow_soft {W W' : World} {base n size l : Nat} {t : TypeId} {v : Value} {xs : List Value} (h : W.ownsRow base t size v n xs) (hs : Soft W l) (hg : W.grownBy W' (some l)) : W'.ownsRow base t size v n xs := by
  refine h.kept hg ?_
  rcases h.2 with ⟨rfl, _⟩ | ⟨g, cap, cur, rfl, _, hb, _⟩
  · exact .inl rfl
  · refine .inr ?_
    intro e
    simp [Value.ownBlock] at e
    exact hs.ne_box hb e
theorem ownsRow_ge {W : World} {base n size : Nat} {t : TypeId} {v : Value} {xs : List Value} (h : W.ownsRow base t size v n xs) : ∀ g, v.ownBlock = some g → base ≤ g ∧ ¬ Soft W g := by
  intro g hg
  rcases h.2 with ⟨rfl, _⟩ | ⟨g', cap, cur, rfl, hle, hb, _⟩
  · cases hg
  · obtain rfl : g' = g := by simpa [Value.ownBlock] using hg
    exact ⟨hle, fun hs => hs.ne_box hb rfl⟩
theorem cell_four {w : World} {a b c d : Value} {t : TypeId} : ∀ j x, [a, b, c, d][j]? = some x → (w.alloc (.cells #[a, b, c, d] t)).cell? ((⟨w.heap.size, 0, none⟩ : Addr).add j) = some x := by
  intro j x hx
  have hb := Box.new w #[a, b, c, d] t
  rw [add_off, hb.cell]
  match j, hx with
  | 0, hx => simpa using hx
  | 1, hx => simpa using hx
  | 2, hx => simpa using hx
  | 3, hx => simpa using hx
/-- Variable O collects tokens in a row of its own, made since world W1; nothing else of W1 has turned. -/
def OutK (W1 : World) (O k : Nat) (ts : List Tok) (W : World) : Prop :=
  ∃ p n c, Box W O #[.slice p n c] 32 ∧ W.ownsRow W1.heap.size 37 4 (.slice p n c) k (cellsT ts) ∧ W1.grownBy W (some O)
theorem OutK.after {W1 W W' : World} {O k : Nat} {ts : List Tok} (h : OutK W1 O k ts W) (hb : Below W.heap.size W W') : OutK W1 O k ts W' := by
  obtain ⟨p, n, c, h1, h2, h3⟩ := h
  exact ⟨p, n, c, h1.after hb, ownsRow_after h2 hb, grown_below h3 hb⟩
theorem OutK.soft {W1 W W' : World} {O k s : Nat} {ts : List Tok} (h : OutK W1 O k ts W) (hs : Soft W s) (hle : W1.heap.size ≤ s) (hg : W.grownBy W' (some s)) : OutK W1 O k ts W' := by
  obtain ⟨p, n, c, h1, h2, h3⟩ := h
  exact ⟨p, n, c, h1.soft hs hg, ownsRow_soft h2 hs hg, grown_new h3 hg (fun g e => by injection e with e; omega)⟩
/-- One token more: a new row behind an append, and the store of it. -/
theorem OutK.push {W1 w3 w5 : World} {O k : Nat} {ts : List Tok} {p : Option Addr} {n c : Nat} {x : Tok} {v' : Value} {t : TypeId} (hO : O < W1.heap.size) (hbo : Box w3 O #[.slice p n c] 32) (hown : w3.ownsRow W1.heap.size 37 4 (.slice p n c) k (cellsT ts)) (hg : W1.grownBy w3 (some O))
    (hown' : w5.ownsRow W1.heap.size 37 4 v' (k + 1) (cellsT ts ++ cellsOf x)) {cs : Array Value} (hgr : (w3.alloc (.cells cs t)).grownBy w5 (Value.slice p n c).ownBlock) :
    Box w5 O #[.slice p n c] 32 ∧ OutK W1 O (k + 1) (ts ++ [x]) (w5.setCell ⟨O, 0, none⟩ v') ∧ KeepSoft W1.heap.size w3 (w5.setCell ⟨O, 0, none⟩ v') := by
  have hge := ownsRow_ge (hown.alloc (.cells cs t))
  have hge' := ownsRow_ge hown'
  have b5 : Box w5 O #[.slice p n c] 32 := (hbo.alloc _).grown hgr (by intro e; have := (hge O e.symm).1; omega)
  obtain ⟨p', c', rfl⟩ := ownsRow_shape hown'
  refine ⟨b5, ⟨p', _, c', by simpa using b5.set 0 (.slice p' (k + 1) c'), ?_, ?_⟩, ?_⟩
  · rw [cellsT_snoc]
    refine hown'.kept (grown_set w5 O 0 _) ?_
    cases hb : (Value.slice p' (k + 1) c').ownBlock with
    | none => exact .inl rfl
    | some g => exact .inr (by intro e; injection e with e; have := (hge' g hb).1; omega)
  · exact grown_tr (grown_new (grown_tr hg (World.grownBy_alloc w3 _ (some O))) hgr (fun g e => (hge g e).1)) (grown_set w5 O 0 _)
  · exact (((KeepSoft.refl W1.heap.size w3).below (held_alloc (Below.refl _ w3))).grown hgr (fun g e => (hge g e).2)).setCell (b5.cell 0)
/-- The three results' variables, at D and behind it, are written. -/
def ResK (w : World) (D : Nat) (r : List Tok × Int × Nat) (W : World) : Prop := ∃ v, Box W D #[v] 32 ∧ Box W (D + 1) #[.int .i64 r.2.1] 3 ∧ Box W (D + 2) #[.int .i64 ((r.2.2 : Nat) : Int)] 23 ∧ SlK W v r.1 ∧ Below w.heap.size w W
/-- The result is tokens, an offset and an error. -/
def RetK (w : World) (r : List Tok × Int × Nat) (e : Ending) (w' : World) : Prop := ∃ v, e = .returned (.tuple #[v, .int .i64 r.2.1, .int .i64 ((r.2.2 : Nat) : Int)]) ∧ SlK w' v r.1 ∧ Below w.heap.size w w'
theorem SlK.soft {w w' : World} {v : Value} {ts : List Tok} {l : Nat} (h : SlK w v ts) (hs : Soft w l) (hg : w.grownBy w' (some l)) : SlK w' v ts := by
  obtain ⟨h0, a, cap, h1, h2, h3, h5, h6⟩ := h
  refine ⟨h0, a, cap, h1, h2, h3, h5, fun hl => ?_⟩
  obtain ⟨b, off, ha, hlt, hc⟩ := h6 hl
  refine ⟨b, off, ha, Nat.lt_of_lt_of_le hlt hg.size, fun i hi => ?_⟩
  obtain ⟨c0, c1, c2, c3⟩ := hc i hi
  exact ⟨cell_soft c0 hs hg, cell_soft c1 hs hg, cell_soft c2 hs hg, cell_soft c3 hs hg⟩
theorem ResK.soft {w W W' : World} {D n : Nat} {r : List Tok × Int × Nat} (h : ResK w D r W) (hs : Soft W n) (hn : w.heap.size ≤ n) (hg : W.grownBy W' (some n)) : ResK w D r W' := by
  obtain ⟨v, h1, h2, h3, h4, h5⟩ := h
  exact ⟨v, h1.soft hs hg, h2.soft hs hg, h3.soft hs hg, h4.soft hs hg, h5.grown hg h5.size (fun g e => by injection e with e; omega)⟩
theorem ownsRow_set {W : World} {base n size O i : Nat} {t : TypeId} {v u : Value} {xs : List Value} (h : W.ownsRow base t size v n xs) (hO : O < base) : (W.setCell ⟨O, i, none⟩ u).ownsRow base t size v n xs := by
  refine h.kept (grown_set W O i u) ?_
  cases hb : v.ownBlock with
  | none => exact .inl rfl
  | some g => exact .inr (by intro e; injection e with e; have := (ownsRow_ge h g hb).1; omega)
theorem resK_store {w W : World} {D B n : Nat} {x0 x1 x2 v : Value} {ts : List Tok} (hD : Box W D #[x0] 32) (hA : Box W (D + 1) #[x1] 3) (hE : Box W (D + 2) #[x2] 23) (hown : W.ownsRow B 37 4 v n (cellsT ts)) (hok : ∀ t ∈ ts, TokOk t)
    (hDB : D + 2 < B) (hle : w.heap.size ≤ D) (hb : Below w.heap.size w W) (a : Int) (e : Nat) : ResK w D (ts, a, e) (((W.setCell ⟨D, 0, none⟩ v).setCell ⟨D + 1, 0, none⟩ (.int .i64 a)).setCell ⟨D + 2, 0, none⟩ (.int .i64 ((e : Nat) : Int))) := by
  refine ⟨v, ?_, ?_, ?_, ?_, ((hb.setCell (p := ⟨D, 0, none⟩) hle _).setCell (p := ⟨D + 1, 0, none⟩) (Nat.le_succ_of_le hle) _).setCell (p := ⟨D + 2, 0, none⟩) (by show _ ≤ D + 2; omega) _⟩
  · have := ((hD.set 0 v).far (p := ⟨D + 1, 0, none⟩) (by simp) (.int .i64 a)).far (p := ⟨D + 2, 0, none⟩) (by simp) (.int .i64 ((e : Nat) : Int))
    simpa using this
  · have := ((hA.far (p := ⟨D, 0, none⟩) (by simp) v).set 0 (.int .i64 a)).far (p := ⟨D + 2, 0, none⟩) (by simp) (.int .i64 ((e : Nat) : Int))
    simpa using this
  · have := ((hE.far (p := ⟨D, 0, none⟩) (by simp) v).far (p := ⟨D + 1, 0, none⟩) (by simp) (.int .i64 a)).set 0 (.int .i64 ((e : Nat) : Int))
    simpa using this
  · exact SlK.of_own (ownsRow_set (ownsRow_set (ownsRow_set hown (by omega)) (by omega)) (by omega)) hok
theorem resK_keep {w2 W : World} {B D : Nat} {x0 x1 x2 : Value} (hD : Box W D #[x0] 32) (hA : Box W (D + 1) #[x1] 3) (hE : Box W (D + 2) #[x2] 23) (hk : KeepSoft B w2 W) (a b c : Value) :
    KeepSoft B w2 (((W.setCell ⟨D, 0, none⟩ a).setCell ⟨D + 1, 0, none⟩ b).setCell ⟨D + 2, 0, none⟩ c) := by
  refine ((hk.setCell (v := x0) (hD.cell 0)).setCell (v := x1) ?_).setCell (v := x2) ?_
  · exact (hA.far (p := ⟨D, 0, none⟩) (by simp) a).cell 0
  · exact ((hE.far (p := ⟨D, 0, none⟩) (by simp) a).far (p := ⟨D + 1, 0, none⟩) (by simp) b).cell 0
end Go.Proofs.YtganlldidjbpiaaGreatDoor

namespace Go.Proofs
open Go.Shelf
def Tryz.lays156_ren : Go.Shelf.Ren := ⟨fun | 156 => 116 | 165 => 133 | 166 => 134 | 169 => 135 | 240 => 147 | 241 => 148 | 276 => 154 | 277 => 155 | n => n, fun | 31 => 40 | 9 => 9 | 3 => 3 | 4 => 4 | 0 => 0 | 20 => 20 | 72 => 137 | 76 => 120 | 70 => 135 | 37 => 57 | 75 => 119 | 127 => 139 | 164 => 160 | 5 => 5 | 80 => 111 | n => n, fun | n => n⟩
theorem Tryz.lays156 : Go.Proofs.Lays.n156 Tryz.prog Tryz.lays156_ren := {
  mixed := by kernel_rfl
  f156 := Tryz.func116.trans (congrArg some (by kernel_rfl))
  f165 := Tryz.func133.trans (congrArg some (by kernel_rfl))
  f166 := Tryz.func134.trans (congrArg some (by kernel_rfl))
  f169 := Tryz.func135.trans (congrArg some (by kernel_rfl))
  f240 := Tryz.func147.trans (congrArg some (by kernel_rfl))
  f241 := Tryz.func148.trans (congrArg some (by kernel_rfl))
  f276 := Tryz.func154.trans (congrArg some (by kernel_rfl))
  f277 := Tryz.func155.trans (congrArg some (by kernel_rfl))
  t0 := Tryz.underlying0
  a0 := Tryz.isAgg0
  z0 := Tryz.sizeOf0
  v0 := Tryz.zeroValue0
  t3 := Tryz.underlying3
  a3 := Tryz.isAgg3
  z3 := Tryz.sizeOf3
  v3 := Tryz.zeroValue3
  t4 := Tryz.underlying4
  a4 := Tryz.isAgg4
  z4 := Tryz.sizeOf4
  v4 := Tryz.zeroValue4
  t9 := Tryz.underlying9
  a9 := Tryz.isAgg9
  z9 := Tryz.sizeOf9
  v9 := Tryz.zeroValue9
  t20 := Tryz.underlying20
  a20 := Tryz.isAgg20
  z20 := Tryz.sizeOf20
  v20 := Tryz.zeroValue20
  t31 := Tryz.underlying40
  a31 := Tryz.isAgg40
  z31 := Tryz.sizeOf40
  v31 := Tryz.zeroValue40
  t37 := Tryz.underlying57
  a37 := Tryz.isAgg57
  z37 := Tryz.sizeOf57
  v37 := Tryz.zeroValue57
  t70 := Tryz.underlying135
  a70 := Tryz.isAgg135
  z70 := Tryz.sizeOf135
  v70 := Tryz.zeroValue135
  t72 := Tryz.underlying137
  a72 := Tryz.isAgg137
  z72 := Tryz.sizeOf137
  v72 := Tryz.zeroValue137
  t75 := Tryz.underlying119
  a75 := Tryz.isAgg119
  z75 := Tryz.sizeOf119
  v75 := Tryz.zeroValue119
  t76 := Tryz.underlying120
  a76 := Tryz.isAgg120
  z76 := Tryz.sizeOf120
  v76 := Tryz.zeroValue120
  t127 := Tryz.underlying139
  a127 := Tryz.isAgg139
  z127 := Tryz.sizeOf139
  v127 := Tryz.zeroValue139
  t164 := Tryz.underlying160
  a164 := Tryz.isAgg160
  z164 := Tryz.sizeOf160
  v164 := Tryz.zeroValue160 }
theorem Tryz.Builder_Extra_156 : Builder.Extra Tryz.prog Tryz.lays156_ren := {
  sizeBuilder := by kernel_rfl
  liesBuilder := by kernel_rfl
  t5 := Tryz.underlying5
  a5 := Tryz.isAgg5
  z5 := Tryz.sizeOf5
  v5 := Tryz.zeroValue5
  infoByte := by kernel_rfl
  cellsByte := by kernel_rfl
  sizeByte := by kernel_rfl
  neB5 := by decide }
open Go.RowKit in
/-- strings.Join: "Join concatenates the elements of its first argument to create a single string. The separator string sep is placed between elements in the resulting string.": HOWEVER MANY ELEMENTS. Below the heap's end the world is as it was. (LAID: no walk: one application.) -/
theorem Tryz.strings_Join (bk o c : Nat) (xs : List ByteArray) (sep : ByteArray) (w : World) (hcells : ∀ (j : Nat) x, xs[j]? = some x → w.cell? ⟨bk, o + j, none⟩ = some (.string x)) (hbk : bk < w.heap.size) (hN : xs.length ≤ 140737488355328) (hcap : xs.length ≤ c) (hlen : (Lib.join (xs.map (·.data.toList)) sep.data.toList).length ≤ 140737488355328) :
    Calls Tryz.prog 116 #[.slice (some ⟨bk, o, none⟩) xs.length c, .string sep] w fun e w' => e = .returned (.string ⟨(Lib.join (xs.map (·.data.toList)) sep.data.toList).toArray⟩) ∧ Below w.heap.size w w' := Any.strings_Join Tryz.lays156 Tryz.Builder_Extra_156 bk o c xs sep w hcells hbk hN hcap hlen
def Tryz.lays137_ren : Go.Shelf.Ren := ⟨fun | 137 => 118 | 217 => 136 | 266 => 149 | n => n, fun | 9 => 9 | 5 => 5 | 3 => 3 | n => n, fun | n => n⟩
theorem Tryz.lays137 : Go.Proofs.Lays.n137 Tryz.prog Tryz.lays137_ren := {
  mixed := by kernel_rfl
  f137 := Tryz.func118.trans (congrArg some (by kernel_rfl))
  f217 := Tryz.func136.trans (congrArg some (by kernel_rfl))
  f266 := Tryz.func149.trans (congrArg some (by kernel_rfl))
  t3 := Tryz.underlying3
  a3 := Tryz.isAgg3
  z3 := Tryz.sizeOf3
  v3 := Tryz.zeroValue3
  t5 := Tryz.underlying5
  a5 := Tryz.isAgg5
  z5 := Tryz.sizeOf5
  v5 := Tryz.zeroValue5
  t9 := Tryz.underlying9
  a9 := Tryz.isAgg9
  z9 := Tryz.sizeOf9
  v9 := Tryz.zeroValue9 }
open Go.RowKit in
/-- strings.IndexByte: "IndexByte returns the index of the first instance of c in s, or -1 if c is not present in s.": IT RETURNS 'Lib.indexByte s c'; the world is as it was. (LAID: no walk: one application.) -/
theorem Tryz.strings_IndexByte (s : ByteArray) (c : Int) (w : World) :
    Calls Tryz.prog 118 #[.string s, .int .u8 c] w fun e w' => e = .returned (.int .i64 (Lib.indexByte s.data.toList c.toNat.toUInt8)) ∧ w' = w := Any.strings_IndexByte Tryz.lays137 s c w
def Tryz.lays172_ren : Go.Shelf.Ren := ⟨fun | 172 => 105 | 244 => 121 | 245 => 122 | 247 => 137 | 279 => 138 | 280 => 139 | 281 => 140 | 282 => 141 | 287 => 150 | 316 => 120 | 171 => 47 | 205 => 151 | 321 => 156 | 322 => 157 | 243 => 88 | 246 => 113 | 283 => 129 | 284 => 130 | 285 => 131 | 286 => 132 | 129 => 143 | 317 => 142 | 318 => 144 | 319 => 145 | 320 => 146 | 337 => 152 | 338 => 153 | n => n, fun | 9 => 9 | 3 => 3 | 75 => 119 | 76 => 120 | 4 => 4 | 5 => 5 | 167 => 140 | 37 => 57 | 0 => 0 | 85 => 141 | 2 => 2 | 168 => 143 | 53 => 130 | 175 => 154 | 46 => 152 | 210 => 157 | 127 => 139 | 145 => 166 | 143 => 164 | 21 => 21 | 171 => 129 | 173 => 133 | 212 => 148 | 51 => 149 | 20 => 20 | 213 => 150 | 232 => 167 | 233 => 168 | 80 => 111 | n => n, fun | 15 => 4 | 16 => 5 | 17 => 3 | 18 => 7 | 19 => 8 | n => n⟩
theorem Tryz.lays172 : Go.Proofs.Lays.n172 Tryz.prog Tryz.lays172_ren := {
  mixed := by kernel_rfl
  f129 := Tryz.func143.trans (congrArg some (by kernel_rfl))
  f171 := Tryz.func47.trans (congrArg some (by kernel_rfl))
  f172 := Tryz.func105.trans (congrArg some (by kernel_rfl))
  f205 := Tryz.func151.trans (congrArg some (by kernel_rfl))
  f243 := Tryz.func88.trans (congrArg some (by kernel_rfl))
  f244 := Tryz.func121.trans (congrArg some (by kernel_rfl))
  f245 := Tryz.func122.trans (congrArg some (by kernel_rfl))
  f246 := Tryz.func113.trans (congrArg some (by kernel_rfl))
  f247 := Tryz.func137.trans (congrArg some (by kernel_rfl))
  f279 := Tryz.func138.trans (congrArg some (by kernel_rfl))
  f280 := Tryz.func139.trans (congrArg some (by kernel_rfl))
  f281 := Tryz.func140.trans (congrArg some (by kernel_rfl))
  f282 := Tryz.func141.trans (congrArg some (by kernel_rfl))
  f283 := Tryz.func129.trans (congrArg some (by kernel_rfl))
  f284 := Tryz.func130.trans (congrArg some (by kernel_rfl))
  f285 := Tryz.func131.trans (congrArg some (by kernel_rfl))
  f286 := Tryz.func132.trans (congrArg some (by kernel_rfl))
  f287 := Tryz.func150.trans (congrArg some (by kernel_rfl))
  f316 := Tryz.func120.trans (congrArg some (by kernel_rfl))
  f317 := Tryz.func142.trans (congrArg some (by kernel_rfl))
  f318 := Tryz.func144.trans (congrArg some (by kernel_rfl))
  f319 := Tryz.func145.trans (congrArg some (by kernel_rfl))
  f320 := Tryz.func146.trans (congrArg some (by kernel_rfl))
  f321 := Tryz.func156.trans (congrArg some (by kernel_rfl))
  f322 := Tryz.func157.trans (congrArg some (by kernel_rfl))
  f337 := Tryz.func152.trans (congrArg some (by kernel_rfl))
  f338 := Tryz.func153.trans (congrArg some (by kernel_rfl))
  t0 := Tryz.underlying0
  a0 := Tryz.isAgg0
  z0 := Tryz.sizeOf0
  v0 := Tryz.zeroValue0
  t2 := Tryz.underlying2
  a2 := Tryz.isAgg2
  z2 := Tryz.sizeOf2
  v2 := Tryz.zeroValue2
  t3 := Tryz.underlying3
  a3 := Tryz.isAgg3
  z3 := Tryz.sizeOf3
  v3 := Tryz.zeroValue3
  t4 := Tryz.underlying4
  a4 := Tryz.isAgg4
  z4 := Tryz.sizeOf4
  v4 := Tryz.zeroValue4
  t5 := Tryz.underlying5
  a5 := Tryz.isAgg5
  z5 := Tryz.sizeOf5
  v5 := Tryz.zeroValue5
  t9 := Tryz.underlying9
  a9 := Tryz.isAgg9
  z9 := Tryz.sizeOf9
  v9 := Tryz.zeroValue9
  t20 := Tryz.underlying20
  a20 := Tryz.isAgg20
  z20 := Tryz.sizeOf20
  v20 := Tryz.zeroValue20
  t21 := Tryz.underlying21
  a21 := Tryz.isAgg21
  z21 := Tryz.sizeOf21
  v21 := Tryz.zeroValue21
  t37 := Tryz.underlying57
  a37 := Tryz.isAgg57
  z37 := Tryz.sizeOf57
  v37 := Tryz.zeroValue57
  t46 := Tryz.underlying152
  a46 := Tryz.isAgg152
  z46 := Tryz.sizeOf152
  v46 := Tryz.zeroValue152
  t51 := Tryz.underlying149
  a51 := Tryz.isAgg149
  z51 := Tryz.sizeOf149
  v51 := Tryz.zeroValue149
  t53 := Tryz.underlying130
  a53 := Tryz.isAgg130
  z53 := Tryz.sizeOf130
  v53 := Tryz.zeroValue130
  t75 := Tryz.underlying119
  a75 := Tryz.isAgg119
  z75 := Tryz.sizeOf119
  v75 := Tryz.zeroValue119
  t76 := Tryz.underlying120
  a76 := Tryz.isAgg120
  z76 := Tryz.sizeOf120
  v76 := Tryz.zeroValue120
  t85 := Tryz.underlying141
  a85 := Tryz.isAgg141
  z85 := Tryz.sizeOf141
  v85 := Tryz.zeroValue141
  t127 := Tryz.underlying139
  a127 := Tryz.isAgg139
  z127 := Tryz.sizeOf139
  v127 := Tryz.zeroValue139
  t143 := Tryz.underlying164
  a143 := Tryz.isAgg164
  z143 := Tryz.sizeOf164
  v143 := Tryz.zeroValue164
  t145 := Tryz.underlying166
  a145 := Tryz.isAgg166
  z145 := Tryz.sizeOf166
  v145 := Tryz.zeroValue166
  t167 := Tryz.underlying140
  a167 := Tryz.isAgg140
  z167 := Tryz.sizeOf140
  v167 := Tryz.zeroValue140
  t168 := Tryz.underlying143
  a168 := Tryz.isAgg143
  z168 := Tryz.sizeOf143
  v168 := Tryz.zeroValue143
  t171 := Tryz.underlying129
  a171 := Tryz.isAgg129
  z171 := Tryz.sizeOf129
  v171 := Tryz.zeroValue129
  t173 := Tryz.underlying133
  a173 := Tryz.isAgg133
  z173 := Tryz.sizeOf133
  v173 := Tryz.zeroValue133
  t175 := Tryz.underlying154
  a175 := Tryz.isAgg154
  z175 := Tryz.sizeOf154
  v175 := Tryz.zeroValue154
  t210 := Tryz.underlying157
  a210 := Tryz.isAgg157
  z210 := Tryz.sizeOf157
  v210 := Tryz.zeroValue157
  t212 := Tryz.underlying148
  a212 := Tryz.isAgg148
  z212 := Tryz.sizeOf148
  v212 := Tryz.zeroValue148
  t213 := Tryz.underlying150
  a213 := Tryz.isAgg150
  z213 := Tryz.sizeOf150
  t232 := Tryz.underlying167
  a232 := Tryz.isAgg167
  z232 := Tryz.sizeOf167
  v232 := Tryz.zeroValue167
  t233 := Tryz.underlying168
  a233 := Tryz.isAgg168
  z233 := Tryz.sizeOf168
  v233 := Tryz.zeroValue168
  g15 := by kernel_rfl
  g16 := by kernel_rfl
  g17 := by kernel_rfl
  g18 := by kernel_rfl
  g19 := by kernel_rfl }
open Go.RowKit in
/-- strconv.Atoi: "Atoi is equivalent to ParseInt(s, 10, 0), converted to type int.": AT A DECIMAL NUMERAL OF AT MOST 18 BYTES: its value, and a nil error. The world behind the call: the one new row that the library's '[]byte(s)' lays. (LAID: no walk: one application.) -/
theorem Tryz.strconv_Atoi (s : ByteArray) (n : Int) (hl : s.size ≤ 18) (h : Lib.atoi s.data.toList = some n) (w : World) :
    Calls Tryz.prog 105 #[.string s] w fun e w' => e = .returned (.tuple #[.int .i64 n, .nilIface]) ∧ ∃ t, w' = Lib.bytesWorld w 5 t := Any.strconv_Atoi Tryz.lays172 s n hl h w
def Tryz.laysM171_ren : Go.Shelf.Ren := ⟨fun | 171 => 47 | 243 => 88 | 246 => 113 | 283 => 129 | 284 => 130 | 285 => 131 | 286 => 132 | 129 => 143 | 317 => 142 | 318 => 144 | 319 => 145 | 320 => 146 | 337 => 152 | 338 => 153 | n => n, fun | 3 => 3 | 9 => 9 | 2 => 2 | 4 => 4 | 171 => 129 | 0 => 0 | 53 => 130 | 37 => 57 | 5 => 5 | 173 => 133 | 212 => 148 | 51 => 149 | 20 => 20 | 213 => 150 | 46 => 152 | 232 => 167 | 233 => 168 | n => n, fun | 17 => 3 | 18 => 7 | 19 => 8 | n => n⟩
theorem Tryz.laysM171 : Go.Proofs.LaysM.n171 Tryz.prog Tryz.laysM171_ren := {
  mixed := by kernel_rfl
  f129 := Tryz.func143.trans (congrArg some (by kernel_rfl))
  f171 := Tryz.func47.trans (congrArg some (by kernel_rfl))
  f243 := Tryz.func88.trans (congrArg some (by kernel_rfl))
  f246 := Tryz.func113.trans (congrArg some (by kernel_rfl))
  f283 := Tryz.func129.trans (congrArg some (by kernel_rfl))
  f284 := Tryz.func130.trans (congrArg some (by kernel_rfl))
  f285 := Tryz.func131.trans (congrArg some (by kernel_rfl))
  f286 := Tryz.func132.trans (congrArg some (by kernel_rfl))
  f317 := Tryz.func142.trans (congrArg some (by kernel_rfl))
  f318 := Tryz.func144.trans (congrArg some (by kernel_rfl))
  f319 := Tryz.func145.trans (congrArg some (by kernel_rfl))
  f320 := Tryz.func146.trans (congrArg some (by kernel_rfl))
  f337 := Tryz.func152.trans (congrArg some (by kernel_rfl))
  f338 := Tryz.func153.trans (congrArg some (by kernel_rfl))
  t0 := Tryz.underlying0
  a0 := Tryz.isAgg0
  z0 := Tryz.sizeOf0
  v0 := Tryz.zeroValue0
  t2 := Tryz.underlying2
  a2 := Tryz.isAgg2
  z2 := Tryz.sizeOf2
  v2 := Tryz.zeroValue2
  t3 := Tryz.underlying3
  a3 := Tryz.isAgg3
  z3 := Tryz.sizeOf3
  v3 := Tryz.zeroValue3
  t4 := Tryz.underlying4
  a4 := Tryz.isAgg4
  z4 := Tryz.sizeOf4
  v4 := Tryz.zeroValue4
  t5 := Tryz.underlying5
  a5 := Tryz.isAgg5
  z5 := Tryz.sizeOf5
  v5 := Tryz.zeroValue5
  t9 := Tryz.underlying9
  a9 := Tryz.isAgg9
  z9 := Tryz.sizeOf9
  v9 := Tryz.zeroValue9
  t20 := Tryz.underlying20
  a20 := Tryz.isAgg20
  z20 := Tryz.sizeOf20
  v20 := Tryz.zeroValue20
  t37 := Tryz.underlying57
  a37 := Tryz.isAgg57
  z37 := Tryz.sizeOf57
  v37 := Tryz.zeroValue57
  t46 := Tryz.underlying152
  a46 := Tryz.isAgg152
  z46 := Tryz.sizeOf152
  v46 := Tryz.zeroValue152
  t51 := Tryz.underlying149
  a51 := Tryz.isAgg149
  z51 := Tryz.sizeOf149
  v51 := Tryz.zeroValue149
  t53 := Tryz.underlying130
  a53 := Tryz.isAgg130
  z53 := Tryz.sizeOf130
  v53 := Tryz.zeroValue130
  t171 := Tryz.underlying129
  a171 := Tryz.isAgg129
  z171 := Tryz.sizeOf129
  v171 := Tryz.zeroValue129
  t173 := Tryz.underlying133
  a173 := Tryz.isAgg133
  z173 := Tryz.sizeOf133
  v173 := Tryz.zeroValue133
  t212 := Tryz.underlying148
  a212 := Tryz.isAgg148
  z212 := Tryz.sizeOf148
  v212 := Tryz.zeroValue148
  t213 := Tryz.underlying150
  a213 := Tryz.isAgg150
  z213 := Tryz.sizeOf150
  t232 := Tryz.underlying167
  a232 := Tryz.isAgg167
  z232 := Tryz.sizeOf167
  v232 := Tryz.zeroValue167
  t233 := Tryz.underlying168
  a233 := Tryz.isAgg168
  z233 := Tryz.sizeOf168
  v233 := Tryz.zeroValue168
  g17 := by kernel_rfl
  g18 := by kernel_rfl
  g19 := by kernel_rfl
  i0 := by kernel_rfl
  i2 := by kernel_rfl
  i3 := by kernel_rfl
  i4 := by kernel_rfl
  i5 := by kernel_rfl
  i9 := by kernel_rfl
  i20 := by kernel_rfl
  i37 := by kernel_rfl
  i46 := by kernel_rfl
  i51 := by kernel_rfl
  i53 := by kernel_rfl
  i171 := by kernel_rfl
  i173 := by kernel_rfl
  i212 := by kernel_rfl
  i232 := by kernel_rfl
  i233 := by kernel_rfl
  m17 := by kernel_rfl
  m18 := by kernel_rfl
  m19 := by kernel_rfl }
open Go.RowKit Go.Sort Go.Lib in
/-- strconv.Itoa: "Itoa is equivalent to FormatInt(int64(i), 10).": i's DECIMAL NUMERAL ('Lib.itoa': a '-' where i is negative, then the digits), FOR EVERY int. The world behind the call: the world before it, new blocks behind the heap (the library's 'var a [24]byte'), draws. (LAID: no walk: one application.) -/
theorem Tryz.strconv_Itoa (n : Int) (h0 : -9223372036854775808 ≤ n) (h1 : n ≤ 9223372036854775807) (w : World) (htab : Lib.TabIs Tryz.prog w "internal/strconv.uint64pow10" .u64 Lib.pow10Tab) :
    Calls Tryz.prog 47 #[.int .i64 n] w fun e w' => e = .returned (.string ⟨(Lib.itoa n).toArray⟩) ∧ ∃ k os, w' = grow (w.drewN k) os := Any.strconv_Itoa Tryz.laysM171 n h0 h1 w htab
def Tryz.laysM316_ren : Go.Shelf.Ren := ⟨fun | 316 => 120 | n => n, fun | 9 => 9 | 3 => 3 | 4 => 4 | 37 => 57 | 0 => 0 | 127 => 139 | 5 => 5 | n => n, fun | n => n⟩
theorem Tryz.laysM316 : Go.Proofs.LaysM.n316 Tryz.prog Tryz.laysM316_ren := {
  mixed := by kernel_rfl
  f316 := Tryz.func120.trans (congrArg some (by kernel_rfl))
  t0 := Tryz.underlying0
  a0 := Tryz.isAgg0
  z0 := Tryz.sizeOf0
  v0 := Tryz.zeroValue0
  t3 := Tryz.underlying3
  a3 := Tryz.isAgg3
  z3 := Tryz.sizeOf3
  v3 := Tryz.zeroValue3
  t4 := Tryz.underlying4
  a4 := Tryz.isAgg4
  z4 := Tryz.sizeOf4
  v4 := Tryz.zeroValue4
  t9 := Tryz.underlying9
  a9 := Tryz.isAgg9
  z9 := Tryz.sizeOf9
  v9 := Tryz.zeroValue9
  t37 := Tryz.underlying57
  a37 := Tryz.isAgg57
  z37 := Tryz.sizeOf57
  v37 := Tryz.zeroValue57
  t127 := Tryz.underlying139
  a127 := Tryz.isAgg139
  z127 := Tryz.sizeOf139
  v127 := Tryz.zeroValue139
  t5 := Tryz.underlying5
  a5 := Tryz.isAgg5
  z5 := Tryz.sizeOf5
  v5 := Tryz.zeroValue5
  i0 := by kernel_rfl
  i3 := by kernel_rfl
  i4 := by kernel_rfl
  i5 := by kernel_rfl
  i9 := by kernel_rfl
  i37 := by kernel_rfl
  i127 := by kernel_rfl }
open Go.RowKit in
/-- internal/stringslite.Clone (what strings.Clone calls): "Clone returns a fresh copy of s.": THE SAME BYTES. Of what was there nothing has turned (a new row is laid, and frozen, where s is not empty). (LAID: no walk: one application.) -/
theorem Tryz.stringslite_Clone (s : ByteArray) (w : World) (hlim : s.size ≤ 281474976710656) :
    Calls Tryz.prog 120 #[.string s] w fun e w' => e = .returned (.string s) ∧ Below w.heap.size w w' := Any.stringslite_Clone Tryz.laysM316 s w hlim
def Tryz.lays99_ren : Go.Shelf.Ren := ⟨fun | 99 => 99 | 206 => 119 | n => n, fun | 9 => 9 | 4 => 4 | 3 => 3 | n => n, fun | n => n⟩
theorem Tryz.lays99 : Go.Proofs.Lays.n99 Tryz.prog Tryz.lays99_ren := {
  mixed := by kernel_rfl
  f99 := Tryz.func99.trans (congrArg some (by kernel_rfl))
  f206 := Tryz.func119.trans (congrArg some (by kernel_rfl))
  t3 := Tryz.underlying3
  a3 := Tryz.isAgg3
  z3 := Tryz.sizeOf3
  v3 := Tryz.zeroValue3
  t4 := Tryz.underlying4
  a4 := Tryz.isAgg4
  z4 := Tryz.sizeOf4
  v4 := Tryz.zeroValue4
  t9 := Tryz.underlying9
  a9 := Tryz.isAgg9
  z9 := Tryz.sizeOf9
  v9 := Tryz.zeroValue9 }
open Go.RowKit Go.Lib in
/-- strings.HasPrefix: "HasPrefix reports whether the string s begins with prefix.": IT RETURNS 'Lib.hasPrefix s prefix'; the world is as it was. (LAID: no walk: one application.) -/
theorem Tryz.strings_HasPrefix (s p : ByteArray) (w : World) :
    Calls Tryz.prog 99 #[.string s, .string p] w fun e w' => e = .returned (.bool (Lib.hasPrefix s.data.toList p.data.toList)) ∧ w' = w := Any.strings_HasPrefix Tryz.lays99 s p w
end Go.Proofs

namespace Go.Proofs.YtganlldidjbpiaaGreatDoor
open Go.RowKit Go.Shelf

/-- Called at a byte it says whether p, and nothing turns. -/
def Class (f : Nat) (p : UInt8 → Bool) : Prop := (∀ args w, (callFunc f args).run Tryz.prog w = .ok (.enter f args) w) ∧ ∀ (c : UInt8) (w : World), Calls Tryz.prog f #[.int .u8 (c.toNat : Int)] w fun e w' => e = .returned (.bool (p c)) ∧ w = w'

theorem beq_lit (n m : Nat) : ((n : Int) == (m : Int)) = decide (n = m) := by rw [Bool.eq_iff_iff, beq_iff_eq, decide_eq_true_iff]; omega
theorem bne_lit (n m : Nat) : ((n : Int) != (m : Int)) = decide (n ≠ m) := by rw [Bool.eq_iff_iff, bne_iff_ne, decide_eq_true_iff]; omega
theorem index_c (s : ByteArray) (c : UInt8) (w : World) :
    Calls Tryz.prog 118 #[.string s, .int .u8 (c.toNat : Int)] w fun e w' => e = .returned (.int .i64 (Lib.indexByte s.data.toList c)) ∧ w' = w := by
  have h := Tryz.strings_IndexByte s (c.toNat : Int) w
  have e : ((c.toNat : Int)).toNat.toUInt8 = c := by rw [Int.toNat_natCast]; exact UInt8.ofNat_toNat
  rwa [e] at h
theorem letter_c (c : UInt8) (w : World) : Calls Tryz.prog 101 #[.int .u8 (c.toNat : Int)] w fun e w' => e = .returned (.bool (isLet c)) ∧ w = w' := by
  go_enter Tryz.func101, Tryz.ntmps101
  go_wp2
  all_goals
    go_ret
    exact ⟨ret_bool (by unfold isLet; first | (symm; apply decide_eq_true; omega) | (symm; apply decide_eq_false; omega) | (apply decide_eq_decide.2; omega)), rfl⟩
theorem digit_c (c : UInt8) (w : World) : Calls Tryz.prog 104 #[.int .u8 (c.toNat : Int)] w fun e w' => e = .returned (.bool (isDig c)) ∧ w = w' := by
  go_enter Tryz.func104, Tryz.ntmps104
  go_wp2
  all_goals
    go_ret
    exact ⟨ret_bool (by unfold isDig; first | (symm; apply decide_eq_true; omega) | (symm; apply decide_eq_false; omega) | (apply decide_eq_decide.2; omega)), rfl⟩
theorem inside_c (c : UInt8) (w : World) : Calls Tryz.prog 102 #[.int .u8 (c.toNat : Int)] w fun e w' => e = .returned (.bool (isIns c)) ∧ w = w' := by
  cases h1 : isLet c <;> cases h2 : isDig c
  all_goals
    go_enter Tryz.func102, Tryz.ntmps102
    go_wp2_with (first
      | (go_at_call 101; refine (letter_c c _).mono ?_; rintro e w' ⟨rfl, rfl⟩; rw [h1])
      | (go_at_call 104; refine (digit_c c _).mono ?_; rintro e w' ⟨rfl, rfl⟩; rw [h2]))
    all_goals
      go_ret
      exact ⟨ret_bool (by unfold isIns; rw [h1, h2]; first | rfl | exact beq_lit c.toNat 45), rfl⟩
theorem remark_c (c : UInt8) (w : World) : Calls Tryz.prog 100 #[.int .u8 (c.toNat : Int)] w fun e w' => e = .returned (.bool (isTxt c)) ∧ w = w' := by
  go_enter Tryz.func100, Tryz.ntmps100
  go_wp2
  all_goals
    go_ret
    exact ⟨ret_bool (by unfold isTxt; exact bne_lit c.toNat 10), rfl⟩
theorem blank_c (c : UInt8) (w : World) : Calls Tryz.prog 98 #[.int .u8 (c.toNat : Int)] w fun e w' => e = .returned (.bool (isBlk c)) ∧ w = w' := by
  rw [← index_blk]
  go_enter Tryz.func98, Tryz.ntmps98
  go_wp2_with (go_at_call 118; refine (index_c _ c _).mono ?_; rintro e w' ⟨rfl, rfl⟩)
  all_goals
    go_ret
    exact ⟨ret_bool (by rfl), rfl⟩
theorem sign_c (c : UInt8) (w : World) : Calls Tryz.prog 106 #[.int .u8 (c.toNat : Int)] w fun e w' => e = .returned (.bool (isSgn c)) ∧ w = w' := by
  rw [← index_sgn]
  go_enter Tryz.func106, Tryz.ntmps106
  go_wp2_with (go_at_call 118; refine (index_c _ c _).mono ?_; rintro e w' ⟨rfl, rfl⟩)
  all_goals
    go_ret
    exact ⟨ret_bool (by rfl), rfl⟩
theorem class_inside : Class 102 isIns := ⟨enters_of Tryz.func102 (by kernel_rfl) rfl, inside_c⟩
theorem class_digit : Class 104 isDig := ⟨enters_of Tryz.func104 (by kernel_rfl) rfl, digit_c⟩
theorem class_blank : Class 98 isBlk := ⟨enters_of Tryz.func98 (by kernel_rfl) rfl, blank_c⟩
theorem class_remark : Class 100 isTxt := ⟨enters_of Tryz.func100 (by kernel_rfl) rfl, remark_c⟩

set_option maxHeartbeats 1000000 in
theorem run_c (l : List UInt8) (f : Nat) (p : UInt8 → Bool) (hf : Class f p) (w : World) (hl : l.length ≤ 9223372036854775807) :
    Calls Tryz.prog 97 #[.string (bs l), .func (.func f) #[] #[]] w fun e w' => e = .returned (.string (bs (l.take (runN p l)))) ∧ w = w' := by
  have hs : (bs l).size = l.length := bs_size l
  obtain ⟨ef, hc⟩ := hf
  have HC := Lib.hid hc
  clear hc
  go_enter Tryz.func97, Tryz.ntmps97
  go_wp2
  go_loop [8] (fun i => ∃ k : Nat, k ≤ l.length ∧ i = .int .i64 k ∧ Hid (∀ j (h : j < l.length), j < k → p l[j] = true)) (fun i => l.length - (intOf i).toNat)
  case atStart => exact ⟨0, Nat.zero_le _, rfl, fun j _ h => by omega⟩
  case round =>
    obtain ⟨k, hk, rfl, hin⟩ := hrel
    by_cases hlt : k < l.length
    · have hget : (bs l)[k]'hlt = l[k] := rfl
      by_cases hp : p l[k] = true
      · go_wp2_with fail
        refine (HC.out l[k] _).mono ?_
        rintro e w' ⟨rfl, rfl⟩
        rw [hp]
        go_wp2_with fail
        go_round
        case rel =>
          refine ⟨k + 1, by omega, by go_num, ?_⟩
          intro j h hj
          rcases Nat.lt_or_ge j k with h1 | h1
          · exact hin.out j h h1
          · obtain rfl : j = k := by omega
            exact hp
        case measure => simp [intOf]; omega
      · have hp' : p l[k] = false := by simpa using hp
        have hrun : Hid (runN p l = k) := runN_eq p l k hk (fun i h hi => hin.out i h hi) (fun _ => hp')
        clear hp
        go_wp2_with fail
        refine (HC.out l[k] _).mono ?_
        rintro e w' ⟨rfl, rfl⟩
        rw [hp']
        go_wp2_with fail
        go_ret
        exact ⟨ret_str (by rw [hrun.out]; exact extract_front l k), rfl⟩
    · have hrun : Hid (runN p l = l.length) := runN_eq p l _ (Nat.le_refl _) (fun i h hi => hin.out i h (by omega)) (fun h => by omega)
      go_wp2_with fail
      go_ret
      exact ⟨ret_str (by rw [hrun.out, List.take_length]), rfl⟩
end Go.Proofs.YtganlldidjbpiaaGreatDoor

namespace Go.Proofs.YtganlldidjbpiaaGreatDoor
open Go.RowKit

/-- The length of a string value. -/
def strLen : Value → Nat
  | .string s => s.size
  | _ => 0
theorem strLen_bs (l : List UInt8) : strLen (.string (bs l)) = l.length := rfl
theorem pre_yes {c : UInt8} (h : c.toNat = 35) (m : List UInt8) : Lib.hasPrefix (c :: m) [35] = true := by
  have : c = 35 := UInt8.toNat_inj.1 h
  subst this
  rfl
theorem pre_no {c : UInt8} (h : c.toNat ≠ 35) (m : List UInt8) : Lib.hasPrefix (c :: m) [35] = false := by
  unfold Lib.hasPrefix
  rw [List.isPrefixOf]
  have : (35 == c) = false := beq_eq_false_iff_ne.2 (by rintro rfl; exact h rfl)
  rw [this]; rfl
theorem runN_head (p : UInt8 → Bool) : ∀ (m : List UInt8) (c : UInt8) (t : List UInt8), m.drop (runN p m) = c :: t → p c = false
  | [], c, t, h => by simp at h
  | d :: m, c, t, h => by
    by_cases hd : p d = true
    · rw [runN_pos _ _ _ hd, List.drop_succ_cons] at h
      exact runN_head p m c t h
    · have hd' : p d = false := by simpa using hd
      rw [runN_zero _ _ _ hd', List.drop_zero] at h
      injection h with e _
      subst e; exact hd'
/-- What a look behind the blanks tells. -/
theorem idle_step (l m : List UInt8) (h : skp false m = skp false l) (hm : m.length ≤ l.length) :
    (Lib.hasPrefix (m.drop (runN isBlk m)) [35] = false ∧ (l.length : Int) - ((m.drop (runN isBlk m)).length : Int) = ((idleN l : Nat) : Int)) ∨
    (Lib.hasPrefix (m.drop (runN isBlk m)) [35] = true ∧ skp false ((m.drop (runN isBlk m)).drop (runN isTxt (m.drop (runN isBlk m)))) = skp false l ∧ 0 < (m.drop (runN isBlk m)).length ∧ 0 < runN isTxt (m.drop (runN isBlk m))) := by
  have hr := skp_run m
  rw [h] at hr
  have hh := runN_head isBlk m
  generalize m.drop (runN isBlk m) = m1 at *
  cases m1 with
  | nil =>
    left
    refine ⟨rfl, ?_⟩
    unfold idleN
    rw [← hr, skp_nil]
    simp
  | cons c t =>
    by_cases hc : c.toNat = 35
    · right
      refine ⟨pre_yes hc t, ?_, by simp, by rw [runN_pos _ _ _ (by simp [isTxt, hc])]; omega⟩
      rw [skp_true, skp, if_neg (by omega), ← hr, skp_hash hc]
    · left
      refine ⟨pre_no hc t, ?_⟩
      have e := skp_stop (hh c t rfl) hc t
      rw [e] at hr
      have := skp_len false l
      unfold idleN
      rw [← hr] at this ⊢
      omega

set_option maxHeartbeats 1000000 in
theorem idle_c (l : List UInt8) (w : World) (hl : l.length ≤ 9223372036854775807) :
    Calls Tryz.prog 73 #[.string (bs l)] w fun e w' => e = .returned (.int .i64 ((idleN l : Nat) : Int)) ∧ w = w' := by
  have hs : (bs l).size = l.length := bs_size l
  go_enter Tryz.func73, Tryz.ntmps73
  go_wp2_with fail
  go_loop [3] (fun r => ∃ m : List UInt8, m.length ≤ l.length ∧ r = .string (bs m) ∧ Hid (skp false m = skp false l)) (fun r => strLen r)
  case atStart => exact ⟨l, Nat.le_refl _, rfl, rfl⟩
  case round =>
    obtain ⟨m, hm, rfl, hrel⟩ := hrel
    have hst := idle_step l m hrel.out hm
    have hsm : (bs m).size = m.length := bs_size m
    have hle := runN_le isBlk m
    have hx1 : (bs m).extract (runN isBlk m) m.length = bs (m.drop (runN isBlk m)) := by rw [← hsm]; exact extract_back m _
    have hz1 : (bs (m.take (runN isBlk m))).size = runN isBlk m := by rw [bs_size, List.length_take]; omega
    have hm1 : (m.drop (runN isBlk m)).length ≤ m.length := by rw [List.length_drop]; omega
    obtain ⟨n1, hn1⟩ : ∃ n, runN isBlk m = n := ⟨_, rfl⟩
    rw [hn1] at hst hle hx1 hz1 hm1
    obtain ⟨m1, hm1e⟩ : ∃ x, m.drop n1 = x := ⟨_, rfl⟩
    rw [hm1e] at hst hx1 hm1
    have HN := Lib.hid hn1
    have HE := Lib.hid hm1e
    have HX1 := Lib.hid hx1
    have HZ1 := Lib.hid hz1
    clear hn1 hm1e hx1 hz1
    have hs1 : (bs m1).size = m1.length := bs_size m1
    rcases hst with ⟨hp, hr⟩ | ⟨hp, hr, hpos, hpos2⟩
    · have HP : Hid (Lib.hasPrefix (bs m1).data.toList [35] = false) := hp
      have HR := Lib.hid hr
      clear hp hr
      go_wp2_with fail
      refine (run_c m _ _ class_blank _ (by omega)).mono ?_
      rintro e w' ⟨rfl, rfl⟩
      rw [HN.out]
      have hz1 := HZ1.out
      have hx1 := HX1.out
      go_wp2_with fail
      refine (Tryz.strings_HasPrefix _ _ _).mono ?_
      rintro e w' ⟨rfl, rfl⟩
      rw [HP.out]
      go_wp2_with fail
      go_ret
      exact ⟨ret_int HR.out, rfl⟩
    · have hle2 := runN_le isTxt m1
      have hx2 : (bs m1).extract (runN isTxt m1) m1.length = bs (m1.drop (runN isTxt m1)) := by rw [← hs1]; exact extract_back m1 _
      have hz2 : (bs (m1.take (runN isTxt m1))).size = runN isTxt m1 := by rw [bs_size, List.length_take]; omega
      have hm2 : (m1.drop (runN isTxt m1)).length < m1.length := by rw [List.length_drop]; omega
      obtain ⟨n2, hn2⟩ : ∃ n, runN isTxt m1 = n := ⟨_, rfl⟩
      rw [hn2] at hr hle2 hx2 hz2 hm2
      obtain ⟨m2, hm2e⟩ : ∃ x, m1.drop n2 = x := ⟨_, rfl⟩
      rw [hm2e] at hr hx2 hm2
      have HN2 := Lib.hid hn2
      have HX2 := Lib.hid hx2
      have HZ2 := Lib.hid hz2
      have HP : Hid (Lib.hasPrefix (bs m1).data.toList [35] = true) := hp
      have HR := Lib.hid hr
      clear hp hr hn2 hm2e hx2 hz2
      go_wp2_with fail
      refine (run_c m _ _ class_blank _ (by omega)).mono ?_
      rintro e w' ⟨rfl, rfl⟩
      rw [HN.out]
      have hz1 := HZ1.out
      have hx1 := HX1.out
      go_wp2_with fail
      refine (Tryz.strings_HasPrefix _ _ _).mono ?_
      rintro e w' ⟨rfl, rfl⟩
      rw [HP.out]
      go_wp2_with fail
      refine (run_c m1 _ _ class_remark _ (by omega)).mono ?_
      rintro e w' ⟨rfl, rfl⟩
      rw [HN2.out]
      have hz2 := HZ2.out
      have hx2 := HX2.out
      go_wp2_with fail
      go_round
      case rel => exact ⟨m2, by omega, rfl, HR.out⟩
      case measure => simp only [strLen_bs]; omega
end Go.Proofs.YtganlldidjbpiaaGreatDoor

/- Syntax, plain: what is printed, and that it is read back. No program in it.
   Syntax, plain: what is printed is read back as the same clauses. No program in it.
   Syntax, plain: clauses and whole texts read back; what Print returns. No program in it.
   Syntax, plain: the law of the round; what is read can be printed; what is printed hangs on no offset. No program in it. -/
import Derived.Lib.ItoaNum
import Derived.Test.YtganlldidjbpiaaGreatDoorK02
import Derived.Test.YtganlldidjbpiaaGreatDoorK03
set_option linter.unusedVariables false
namespace Go.Proofs.YtganlldidjbpiaaGreatDoor
open Go

abbrev dd (n : Nat) : List UInt8 := Lib.decDigits n
theorem numV_snc (l : List UInt8) (c : UInt8) : numV (l ++ [c]) = 10 * numV l + (c.toNat - 48) := by simp [numV, List.foldl_append]
theorem ofN_toNat {x : Nat} (h : x < 256) : (UInt8.ofNat x).toNat = x := by simp [Nat.mod_eq_of_lt h]
theorem dd_small {n : Nat} (h : n < 10) : dd n = [UInt8.ofNat (48 + n)] := by unfold dd; rw [Lib.decDigits, dif_pos h]
theorem dd_big {n : Nat} (h : ¬ n < 10) : dd n = dd (n / 10) ++ [UInt8.ofNat (48 + n % 10)] := by unfold dd; rw [Lib.decDigits, dif_neg h]
theorem dd_all (n : Nat) : (dd n).all isDig = true := by
  induction n using Nat.strongRecOn with
  | _ n ih =>
    by_cases h : n < 10
    · rw [dd_small h]; simp [isDig]; omega
    · rw [dd_big h, List.all_append, ih (n / 10) (by omega)]
      simp [isDig]; omega
theorem dd_ne (n : Nat) : dd n ≠ [] := by
  by_cases h : n < 10
  · rw [dd_small h]; simp
  · rw [dd_big h]; simp
theorem dd_val (n : Nat) : numV (dd n) = n := by
  induction n using Nat.strongRecOn with
  | _ n ih =>
    by_cases h : n < 10
    · rw [dd_small h]
      show 10 * 0 + ((UInt8.ofNat (48 + n)).toNat - 48) = n
      rw [ofN_toNat (by omega)]; omega
    · rw [dd_big h, numV_snc, ih (n / 10) (by omega), ofN_toNat (by omega)]; omega
theorem head_app {l m : List UInt8} (h : l ≠ []) : (l ++ m).head? = l.head? := by cases l with
  | nil => exact absurd rfl h
  | cons c l => rfl
theorem dd_head (n : Nat) (h : 0 < n) : (dd n).head? ≠ some 48 := by
  induction n using Nat.strongRecOn with
  | _ n ih =>
    by_cases h1 : n < 10
    · rw [dd_small h1]
      simp only [List.head?_cons, ne_eq, Option.some.injEq]
      intro e
      have := congrArg UInt8.toNat e
      rw [ofN_toNat (by omega)] at this
      simp at this; omega
    · rw [dd_big h1, head_app (dd_ne _)]
      exact ih (n / 10) (by omega) (by omega)
theorem dd_len : ∀ (k n : Nat), 0 < k → n < 10 ^ k → (dd n).length ≤ k
  | 0, n, h, _ => absurd h (by omega)
  | k + 1, n, _, h => by
    by_cases h1 : n < 10
    · rw [dd_small h1]; simp
    · rw [dd_big h1, List.length_append, List.length_singleton]
      have hk : 0 < k := by
        rcases Nat.eq_zero_or_pos k with e | e
        · subst e; simp at h; omega
        · exact e
      have := dd_len k (n / 10) hk (by rw [Nat.pow_succ] at h; omega)
      omega

theorem fst1_dd {n : Nat} (h : n < 1000000000) : fst1 (dd n) = (⟨2, dd n, (n : Int), 0⟩, 0) := by
  have ha := dd_all n
  have hl := dd_len 9 n (by omega) (by omega)
  have hv := dd_val n
  have hne := dd_ne n
  have hh : ∀ c m, dd n = c :: m → c.toNat = 48 → m = [] := fun c m e h48 => by
    rcases Nat.eq_zero_or_pos n with h0 | h0
    · rw [h0, dd_small (by omega)] at e
      injection e with _ e
      exact e.symm
    · have := dd_head n h0
      rw [e] at this
      simp only [List.head?_cons, ne_eq, Option.some.injEq] at this
      exact absurd (UInt8.toNat_inj.1 (h48.trans (by rfl))) this
  generalize dd n = l at ha hl hv hne hh ⊢
  rcases l with _ | ⟨c, m⟩
  · exact absurd rfl hne
  have hall : ∀ x ∈ c :: m, isDig x = true := List.all_eq_true.1 ha
  have hc : isDig c = true := hall c (by simp)
  have hr : runN isDig (c :: m) = (c :: m).length := runN_all _ _ hall
  have hlet : isLet c = false := by
    have h1 : 48 ≤ c.toNat ∧ c.toNat ≤ 57 := of_decide_eq_true hc
    unfold isLet
    exact decide_eq_false (by omega)
  rw [fst1, if_neg (by rw [hlet]; simp), if_pos hc, hr, if_neg (by rintro ⟨h1, h2⟩; rw [hh c m rfl h1] at h2; simp at h2), if_neg (by simp at hl ⊢; omega), List.take_length, hv]
theorem right_dd {n : Nat} (h : n < 1000000000) : rightT ⟨2, dd n, (n : Int), 0⟩ := by
  refine ⟨dd_ne n, ?_⟩
  show (fst1 (dd n)).2 = 0 ∧ (fst1 (dd n)).1.kind = 2 ∧ (fst1 (dd n)).1.text = dd n ∧ (fst1 (dd n)).1.num = (n : Int)
  rw [fst1_dd h]
  exact ⟨rfl, rfl, rfl, rfl⟩

/-! printing -/
mutual
/-- A clause without its offsets. -/
def strip : Cl → Cl
  | .mk k n d i a b l _ => .mk k n d i a b (stripL l) 0
def stripL : List Cl → List Cl
  | [] => []
  | c :: l => strip c :: stripL l
end
theorem stripL_map : ∀ l, stripL l = l.map strip
  | [] => by rw [stripL]; rfl
  | c :: l => by rw [stripL, stripL_map l]; rfl
def domW (d : Nat) : List UInt8 := if d = 1 then sHost else if d = 2 then sRack else if d = 3 then sRow else if d = 4 then sFeed else if d = 5 then sLoop else []
def kindW (k : Nat) : List UInt8 := if k = 1 then sService else if k = 2 then sWindow else if k = 3 then sApprove else if k = 4 then sBlast else if k = 5 then sCap else if k = 6 then sCores else if k = 7 then sReplicas else if k = 8 then sLeast else if k = 9 then sSpread else if k = 10 then sApart else if k = 11 then sNear else if k = 12 then sFirmware else []
def numW (z : Int) : List UInt8 := dd z.toNat
def commas : List (List UInt8) → List (List UInt8)
  | [] => []
  | n :: l => sComma :: n :: commas l
/-- The words of an item. -/
def textsI (c : Cl) : List (List UInt8) :=
  if c.kind = 9 then [sSpread, numW c.a, sPer, domW c.dom, sSemi]
  else if c.kind = 10 then sApart :: c.names.headD [] :: (commas c.names.tail ++ [sSemi])
  else if c.kind = 11 then [sNear, c.names.headD [], sWithin, numW c.a, sSemi]
  else [kindW c.kind, numW c.a, sSemi]
/-- The words of a clause. -/
def textsT (c : Cl) : List (List UInt8) :=
  if c.kind = 1 then sService :: c.names.headD [] :: sOpen :: (c.items.flatMap textsI ++ [sClose])
  else if c.kind = 2 then [sWindow, domW c.dom, numW c.idx, sFrom, numW c.a, sTo, numW c.b, sSemi]
  else if c.kind = 3 then [sApprove, domW c.dom, numW c.idx, sSemi]
  else if c.kind = 4 then [sBlast, numW c.a, sSemi]
  else [sCap, sFeed, numW c.idx, sAt, numW c.a, sSemi]
def okNum (z : Int) : Prop := 0 ≤ z ∧ z ≤ 999999999
instance (z : Int) : Decidable (okNum z) := by unfold okNum; infer_instance
def okName (n : List UInt8) : Prop := rightT ⟨1, n, 0, 0⟩ ∧ isWord n = false
instance (n : List UInt8) : Decidable (okName n) := by unfold okName; infer_instance
def okDom (d : Nat) : Prop := 1 ≤ d ∧ d ≤ 5
instance (d : Nat) : Decidable (okDom d) := by unfold okDom; infer_instance
/-- An item that can be printed. -/
def formI (c : Cl) : Prop := (6 ≤ c.kind ∧ c.kind ≤ 12) ∧ c.idx = 0 ∧ c.b = 0 ∧ (if c.kind = 10 then c.a = 0 else okNum c.a) ∧ (if c.kind = 9 then okDom c.dom else c.dom = 0) ∧
  (if c.kind = 10 then c.names ≠ [] else if c.kind = 11 then c.names.length = 1 else c.names = []) ∧ (∀ n ∈ c.names, okName n) ∧ c.items = []
/-- A clause that can be printed. -/
def formT (c : Cl) : Prop := (1 ≤ c.kind ∧ c.kind ≤ 5) ∧ (if c.kind = 2 ∨ c.kind = 3 ∨ c.kind = 5 then okNum c.idx else c.idx = 0) ∧ (if c.kind = 2 ∨ c.kind = 4 ∨ c.kind = 5 then okNum c.a else c.a = 0) ∧ (if c.kind = 2 then okNum c.b else c.b = 0) ∧
  (if c.kind = 2 ∨ c.kind = 3 then okDom c.dom else c.dom = 0) ∧ (if c.kind = 1 then c.names.length = 1 else c.names = []) ∧ (∀ n ∈ c.names, okName n) ∧ (if c.kind = 1 then ∀ i ∈ c.items, formI i else c.items = [])

/-! reading back -/
/-- The tokens are, but for their offsets, those of the words. -/
def ReadsT (u : List Tok) (l : List (List UInt8)) : Prop := u.map bare = l.map fun x => (fst1 x).1
theorem ReadsT.cons {u : List Tok} {x : List UInt8} {l : List (List UInt8)} (h : ReadsT u (x :: l)) : ∃ t v, u = t :: v ∧ bare t = (fst1 x).1 ∧ ReadsT v l := by
  rcases u with _ | ⟨t, v⟩
  · cases h
  · injection h with h1 h2
    exact ⟨t, v, rfl, h1, h2⟩
theorem ReadsT.nil {u : List Tok} (h : ReadsT u []) : u = [] := List.map_eq_nil_iff.1 h
theorem ReadsT.app {u : List Tok} {l m : List (List UInt8)} (h : ReadsT u (l ++ m)) : ∃ v w, u = v ++ w ∧ ReadsT v l ∧ ReadsT w m := by
  unfold ReadsT at h
  rw [List.map_append] at h
  obtain ⟨v, w, h1, h2, h3⟩ := List.map_eq_append_iff.1 h
  exact ⟨v, w, h1, h2, h3⟩
theorem bare_eq {t : Tok} {s : Tok} (h : bare t = s) : t.kind = s.kind ∧ t.text = s.text ∧ t.num = s.num := by
  subst h
  exact ⟨rfl, rfl, rfl⟩
/-- A word, fixed, as a token. -/
theorem want_word {s : List UInt8} (hs : (fst1 s).1.text = s) {t : Tok} (h : bare t = (fst1 s).1) (r : List Tok) : wantP s (t :: r) = .ok (t, r) := by
  obtain ⟨_, h2, _⟩ := bare_eq h
  show (if (t.text == s) = true then _ else _) = _
  rw [if_pos (by rw [h2, hs]; simp)]
theorem name_word {n : List UInt8} (hn : okName n) {t : Tok} (h : bare t = (fst1 n).1) (r : List Tok) : nameP (t :: r) = .ok (n, r) := by
  obtain ⟨⟨_, _, k1, k2, _⟩, hw⟩ := hn
  obtain ⟨h1, h2, _⟩ := bare_eq h
  have k1 : (fst1 n).1.kind = 1 := k1
  have k2 : (fst1 n).1.text = n := k2
  have ht : t.text = n := h2.trans k2
  have e : nextP namedT (t :: r) = .ok (t, r) := by
    rw [nextP_at, if_pos]
    unfold namedT
    rw [h1, k1, ht, hw]; rfl
  unfold nameP
  rw [e]
  show (Except.ok (t.text, r) : PR (List UInt8)) = _
  rw [ht]
theorem num_word {z : Int} (hz : okNum z) {t : Tok} (h : bare t = (fst1 (numW z)).1) (r : List Tok) : numP (t :: r) = .ok (z, r) := by
  have hlt : z.toNat < 1000000000 := by have := hz.1; have := hz.2; omega
  obtain ⟨h1, h2, h3⟩ := bare_eq h
  unfold numW at h1 h2 h3
  rw [fst1_dd hlt] at h1 h3
  have e : nextP numberedT (t :: r) = .ok (t, r) := by
    rw [nextP_at, if_pos]
    unfold numberedT
    rw [h1]; rfl
  unfold numP
  rw [e]
  show (Except.ok (t.num, r) : PR Int) = _
  rw [h3]
  have := hz.1
  show (Except.ok (((z.toNat : Nat) : Int), r) : PR Int) = _
  rw [show ((z.toNat : Nat) : Int) = z from by omega]
theorem scope_word {d : Nat} (hd : okDom d) {t : Tok} (h : bare t = (fst1 (domW d)).1) (r : List Tok) : scopeP (t :: r) = .ok (d, r) := by
  have hd' : d = 1 ∨ d = 2 ∨ d = 3 ∨ d = 4 ∨ d = 5 := by have := hd.1; have := hd.2; omega
  obtain ⟨_, h2, _⟩ := bare_eq h
  have h2 : t.text = domW d := h2.trans (by rcases hd' with rfl | rfl | rfl | rfl | rfl <;> decide)
  have hs : scopeN t.text = d := by rw [h2]; rcases hd' with rfl | rfl | rfl | rfl | rfl <;> decide
  have e : nextP scopedT (t :: r) = .ok (t, r) := by
    rw [nextP_at, if_pos]
    unfold scopedT
    rw [hs]
    have := hd.1
    simp; omega
  unfold scopeP
  rw [e]
  show (Except.ok (scopeN t.text, r) : PR Nat) = _
  rw [hs]
end Go.Proofs.YtganlldidjbpiaaGreatDoor

namespace Go.Proofs.YtganlldidjbpiaaGreatDoor
open Go

theorem moreP_at (a b : Tok) (r : List Tok) : moreP (a :: b :: r) = if a.text == sComma then (if namedT b then andP (moreP r) fun l r => .ok (b.text :: l, r) else .error (b :: r)) else .ok ([], a :: b :: r) := rfl
theorem moreP_stop {t : Tok} (h : t.text ≠ sComma) (r : List Tok) : moreP (t :: r) = .ok ([], t :: r) := by
  have h' : (t.text == sComma) = false := by simpa using h
  cases r with
  | nil => show (if t.text == sComma then _ else _) = _; rw [h']; rfl
  | cons b r => rw [moreP_at, h']; rfl
theorem word_text {s : List UInt8} (hs : (fst1 s).1.text = s) {t : Tok} (h : bare t = (fst1 s).1) : t.text = s := (bare_eq h).2.1.trans hs
theorem name_text {n : List UInt8} (hn : okName n) {t : Tok} (h : bare t = (fst1 n).1) : t.text = n ∧ namedT t = true := by
  obtain ⟨⟨_, _, k1, k2, _⟩, hw⟩ := hn
  obtain ⟨h1, h2, _⟩ := bare_eq h
  have k1 : (fst1 n).1.kind = 1 := k1
  have k2 : (fst1 n).1.text = n := k2
  have ht : t.text = n := h2.trans k2
  refine ⟨ht, ?_⟩
  unfold namedT
  rw [h1, k1, ht, hw]; rfl
/-- Names with commas are read back, up to a token that is no comma. -/
theorem more_words : ∀ (l : List (List UInt8)), (∀ n ∈ l, okName n) → ∀ (u : List Tok), ReadsT u (commas l) → ∀ (t : Tok) (r : List Tok), t.text ≠ sComma → moreP (u ++ t :: r) = .ok (l, t :: r)
  | [], _, u, hu, t, r, ht => by
    rw [hu.nil, List.nil_append]
    exact moreP_stop ht r
  | n :: l, h, u, hu, t, r, ht => by
    obtain ⟨a, v, rfl, ha, hv⟩ := hu.cons
    obtain ⟨b, z, rfl, hb, hz⟩ := hv.cons
    have e1 := word_text (s := sComma) (by decide) ha
    obtain ⟨e2, e3⟩ := name_text (h n (by simp)) hb
    rw [List.cons_append, List.cons_append, moreP_at, if_pos (by rw [e1]; simp), if_pos e3, more_words l (fun m hm => h m (by simp [hm])) z hz t r ht, e2]
    rfl
/-- A clause read is the clause but for offsets. -/
def Alike (c d : Cl) : Prop := strip c = strip d
theorem Alike.of {k : Nat} {n : List (List UInt8)} {d : Nat} {i a b : Int} {l : List Cl} {o p : Int} : Alike (.mk k n d i a b l o) (.mk k n d i a b l p) := by
  unfold Alike
  rw [strip, strip]
theorem itemP_at (t : Tok) (r : List Tok) : itemP (t :: r) = if itemK t.text = 0 then .error (t :: r) else semiP (bodyI (itemK t.text) t.off r) := rfl
/-- An item's words are read back. -/
theorem read_item {c : Cl} (h : formI c) {u : List Tok} (hu : ReadsT u (textsI c)) (r : List Tok) : ∃ d, itemP (u ++ r) = .ok (d, r) ∧ Alike d c := by
  obtain ⟨k, n, dm, i, a, b, l, o⟩ := c
  obtain ⟨⟨hk1, hk2⟩, hi, hb, ha, hd, hn, hnn, hl⟩ := h
  replace hk1 : 6 ≤ k := hk1
  replace hk2 : k ≤ 12 := hk2
  replace hi : i = 0 := hi
  replace hb : b = 0 := hb
  replace hl : l = [] := hl
  replace hnn : ∀ m ∈ n, okName m := hnn
  replace ha : if k = 10 then a = 0 else okNum a := ha
  replace hd : if k = 9 then okDom dm else dm = 0 := hd
  replace hn : if k = 10 then n ≠ [] else if k = 11 then n.length = 1 else n = [] := hn
  replace hu : ReadsT u (if k = 9 then [sSpread, numW a, sPer, domW dm, sSemi] else if k = 10 then sApart :: n.headD [] :: (commas n.tail ++ [sSemi]) else if k = 11 then [sNear, n.headD [], sWithin, numW a, sSemi] else [kindW k, numW a, sSemi]) := hu
  subst hi hb hl
  by_cases h9 : k = 9
  · subst h9
    rw [if_pos rfl] at hu
    rw [if_neg (by decide)] at ha
    rw [if_pos rfl] at hd
    rw [if_neg (by decide), if_neg (by decide)] at hn
    subst hn
    obtain ⟨t0, u, rfl, q0, hu⟩ := hu.cons
    obtain ⟨t1, u, rfl, q1, hu⟩ := hu.cons
    obtain ⟨t2, u, rfl, q2, hu⟩ := hu.cons
    obtain ⟨t3, u, rfl, q3, hu⟩ := hu.cons
    obtain ⟨t4, u, rfl, q4, hu⟩ := hu.cons
    rw [hu.nil]
    have e0 := word_text (s := sSpread) (by decide) q0
    have ek : itemK t0.text = 9 := by rw [e0]; decide
    refine ⟨.mk 9 [] dm 0 a 0 [] t0.off, ?_, .of⟩
    show itemP (t0 :: t1 :: t2 :: t3 :: t4 :: r) = _
    rw [itemP_at, ek, if_neg (by decide)]
    unfold semiP bodyI
    rw [if_pos rfl, num_word ha q1]
    show andP (andP (wantP sPer (t2 :: t3 :: t4 :: r)) _) _ = _
    rw [want_word (by decide) q2]
    show andP (andP (scopeP (t3 :: t4 :: r)) _) _ = _
    rw [scope_word hd q3]
    show andP (wantP sSemi (t4 :: r)) _ = _
    rw [want_word (by decide) q4]
    rfl
  rw [if_neg h9] at hu hd
  by_cases h10 : k = 10
  · subst h10
    rw [if_pos rfl] at hu ha hn
    subst ha hd
    obtain ⟨n0, ns, rfl⟩ : ∃ n0 ns, n = n0 :: ns := by cases n with
      | nil => exact absurd rfl hn
      | cons x y => exact ⟨_, _, rfl⟩
    obtain ⟨t0, u, rfl, q0, hu⟩ := hu.cons
    obtain ⟨t1, u, rfl, q1, hu⟩ := hu.cons
    obtain ⟨v, w, rfl, hv, hw⟩ := hu.app
    obtain ⟨t4, w, rfl, q4, hw⟩ := hw.cons
    rw [hw.nil]
    have e0 := word_text (s := sApart) (by decide) q0
    have ek : itemK t0.text = 10 := by rw [e0]; decide
    have e4 := word_text (s := sSemi) (by decide) q4
    refine ⟨.mk 10 (n0 :: ns) 0 0 0 0 [] t0.off, ?_, .of⟩
    have er : t0 :: t1 :: (v ++ [t4]) ++ r = t0 :: t1 :: (v ++ t4 :: r) := by simp
    rw [er, itemP_at, ek, if_neg (by decide)]
    unfold semiP bodyI
    rw [if_neg (by decide), if_pos rfl, name_word (hnn n0 (by simp)) q1]
    show andP (andP (moreP (v ++ t4 :: r)) _) _ = _
    rw [more_words ns (fun m hm => hnn m (by simp [hm])) v hv t4 r (by rw [e4]; decide)]
    show andP (wantP sSemi (t4 :: r)) _ = _
    rw [want_word (by decide) q4]
    rfl
  rw [if_neg h10] at hu ha hn
  by_cases h11 : k = 11
  · subst h11
    rw [if_pos rfl] at hu hn
    subst hd
    obtain ⟨n0, rfl⟩ : ∃ n0, n = [n0] := by
      rcases n with _ | ⟨x, _ | ⟨y, z⟩⟩
      · simp at hn
      · exact ⟨_, rfl⟩
      · simp at hn
    obtain ⟨t0, u, rfl, q0, hu⟩ := hu.cons
    obtain ⟨t1, u, rfl, q1, hu⟩ := hu.cons
    obtain ⟨t2, u, rfl, q2, hu⟩ := hu.cons
    obtain ⟨t3, u, rfl, q3, hu⟩ := hu.cons
    obtain ⟨t4, u, rfl, q4, hu⟩ := hu.cons
    rw [hu.nil]
    have e0 := word_text (s := sNear) (by decide) q0
    have ek : itemK t0.text = 11 := by rw [e0]; decide
    refine ⟨.mk 11 [n0] 0 0 a 0 [] t0.off, ?_, .of⟩
    show itemP (t0 :: t1 :: t2 :: t3 :: t4 :: r) = _
    rw [itemP_at, ek, if_neg (by decide)]
    unfold semiP bodyI
    rw [if_neg (by decide), if_neg (by decide), if_pos rfl, name_word (hnn n0 (by simp)) q1]
    show andP (andP (wantP sWithin (t2 :: t3 :: t4 :: r)) _) _ = _
    rw [want_word (by decide) q2]
    show andP (andP (numP (t3 :: t4 :: r)) _) _ = _
    rw [num_word ha q3]
    show andP (wantP sSemi (t4 :: r)) _ = _
    rw [want_word (by decide) q4]
    rfl
  rw [if_neg h11] at hu hn
  subst hd hn
  obtain ⟨t0, u, rfl, q0, hu⟩ := hu.cons
  obtain ⟨t1, u, rfl, q1, hu⟩ := hu.cons
  obtain ⟨t4, u, rfl, q4, hu⟩ := hu.cons
  rw [hu.nil]
  have hk' : k = 6 ∨ k = 7 ∨ k = 8 ∨ k = 12 := by omega
  have e0 : t0.text = kindW k := word_text (s := kindW k) (by rcases hk' with rfl | rfl | rfl | rfl <;> decide) q0
  have ek : itemK t0.text = k := by rw [e0]; rcases hk' with rfl | rfl | rfl | rfl <;> decide
  refine ⟨.mk k [] 0 0 a 0 [] t0.off, ?_, .of⟩
  show itemP (t0 :: t1 :: t4 :: r) = _
  rw [itemP_at, ek, if_neg (by omega)]
  unfold semiP bodyI
  rw [if_neg h9, if_neg h10, if_neg h11, num_word ha q1]
  show andP (wantP sSemi (t4 :: r)) _ = _
  rw [want_word (by decide) q4]
  rfl
/-- Items' words, up to the closing brace. -/
theorem textsI_head {c : Cl} (h : formI c) : ∃ x l, textsI c = x :: l ∧ (fst1 x).1.text = x ∧ x ≠ sClose := by
  obtain ⟨k, n, dm, i, a, b, l, o⟩ := c
  obtain ⟨⟨hk1, hk2⟩, _⟩ := h
  replace hk1 : 6 ≤ k := hk1
  replace hk2 : k ≤ 12 := hk2
  have hk' : k = 6 ∨ k = 7 ∨ k = 8 ∨ k = 9 ∨ k = 10 ∨ k = 11 ∨ k = 12 := by omega
  rcases hk' with rfl | rfl | rfl | rfl | rfl | rfl | rfl
  · exact ⟨sCores, _, rfl, by decide, by decide⟩
  · exact ⟨sReplicas, _, rfl, by decide, by decide⟩
  · exact ⟨sLeast, _, rfl, by decide, by decide⟩
  · exact ⟨sSpread, _, rfl, by decide, by decide⟩
  · exact ⟨sApart, _, rfl, by decide, by decide⟩
  · exact ⟨sNear, _, rfl, by decide, by decide⟩
  · exact ⟨sFirmware, _, rfl, by decide, by decide⟩
theorem read_items : ∀ (cs : List Cl), (∀ c ∈ cs, formI c) → ∀ (u : List Tok), ReadsT u (cs.flatMap textsI ++ [sClose]) → ∀ (r : List Tok) (n : Nat), cs.length < n → ∃ ds, itemsP n (u ++ r) = .ok (ds, r) ∧ stripL ds = stripL cs
  | [], _, u, hu, r, n, hn => by
    obtain ⟨m, rfl⟩ : ∃ m, n = m + 1 := ⟨n - 1, by simp at hn; omega⟩
    obtain ⟨t, v, rfl, q, hv⟩ := hu.cons
    rw [hv.nil]
    have e := word_text (s := sClose) (by decide) q
    refine ⟨[], ?_, rfl⟩
    show itemsP (m + 1) (t :: r) = _
    rw [itemsP_at, if_pos (by rw [e]; simp)]
  | c :: cs, h, u, hu, r, n, hn => by
    obtain ⟨m, rfl⟩ : ∃ m, n = m + 1 := ⟨n - 1, by simp at hn; omega⟩
    rw [List.flatMap_cons, List.append_assoc] at hu
    obtain ⟨v, w, rfl, hv, hw⟩ := hu.app
    obtain ⟨x, l, hx, hx1, hx2⟩ := textsI_head (h c (by simp))
    obtain ⟨d, hd, had⟩ := read_item (h c (by simp)) hv (w ++ r)
    obtain ⟨ds, hds, hal⟩ := read_items cs (fun c' hc => h c' (by simp [hc])) w hw r m (by simp at hn; omega)
    have hv2 := hv
    rw [hx] at hv2
    obtain ⟨t, v', rfl, q, _⟩ := hv2.cons
    have ht : t.text = x := word_text hx1 q
    refine ⟨d :: ds, ?_, by rw [stripL, stripL, hal, had]⟩
    rw [List.append_assoc]
    rw [List.cons_append] at hd ⊢
    rw [itemsP_at, if_neg (by rw [ht]; simpa using hx2), hd]
    show andP (itemsP m (w ++ r)) _ = _
    rw [hds]
    rfl
end Go.Proofs.YtganlldidjbpiaaGreatDoor

namespace Go.Proofs.YtganlldidjbpiaaGreatDoor
open Go

theorem ReadsT.len {u : List Tok} {l : List (List UInt8)} (h : ReadsT u l) : u.length = l.length := by
  have := congrArg List.length h
  simpa using this
theorem textsI_pos {c : Cl} (h : formI c) : 0 < (textsI c).length := by
  obtain ⟨x, l, e, _⟩ := textsI_head h
  rw [e]; simp
theorem items_le : ∀ cs : List Cl, (∀ c ∈ cs, formI c) → cs.length ≤ (cs.flatMap textsI).length
  | [], _ => Nat.le_refl _
  | c :: cs, h => by
    have h1 := textsI_pos (h c (by simp))
    have h2 := items_le cs (fun d hd => h d (by simp [hd]))
    rw [List.flatMap_cons, List.length_append, List.length_cons]
    omega
/-- A clause's words are read back. -/
theorem read_top {c : Cl} (h : formT c) {u : List Tok} (hu : ReadsT u (textsT c)) (r : List Tok) : ∃ d, topP (u ++ r) = .ok (d, r) ∧ Alike d c := by
  obtain ⟨k, n, dm, i, a, b, l, o⟩ := c
  obtain ⟨⟨hk1, hk2⟩, hi, ha, hb, hd, hn, hnn, hl⟩ := h
  replace hk1 : 1 ≤ k := hk1
  replace hk2 : k ≤ 5 := hk2
  replace hi : if k = 2 ∨ k = 3 ∨ k = 5 then okNum i else i = 0 := hi
  replace ha : if k = 2 ∨ k = 4 ∨ k = 5 then okNum a else a = 0 := ha
  replace hb : if k = 2 then okNum b else b = 0 := hb
  replace hd : if k = 2 ∨ k = 3 then okDom dm else dm = 0 := hd
  replace hn : if k = 1 then n.length = 1 else n = [] := hn
  replace hnn : ∀ m ∈ n, okName m := hnn
  replace hl : if k = 1 then ∀ i ∈ l, formI i else l = [] := hl
  replace hu : ReadsT u (if k = 1 then sService :: n.headD [] :: sOpen :: (l.flatMap textsI ++ [sClose])
    else if k = 2 then [sWindow, domW dm, numW i, sFrom, numW a, sTo, numW b, sSemi]
    else if k = 3 then [sApprove, domW dm, numW i, sSemi]
    else if k = 4 then [sBlast, numW a, sSemi]
    else [sCap, sFeed, numW i, sAt, numW a, sSemi]) := hu
  have hk' : k = 1 ∨ k = 2 ∨ k = 3 ∨ k = 4 ∨ k = 5 := by omega
  rcases hk' with rfl | rfl | rfl | rfl | rfl
  · rw [if_neg (by decide)] at hi ha hb hd
    rw [if_pos rfl] at hn hl hu
    subst hi ha hb hd
    obtain ⟨n0, rfl⟩ : ∃ n0, n = [n0] := by
      rcases n with _ | ⟨x, _ | ⟨y, z⟩⟩
      · simp at hn
      · exact ⟨_, rfl⟩
      · simp at hn
    obtain ⟨t0, u, rfl, q0, hu⟩ := hu.cons
    obtain ⟨t1, u, rfl, q1, hu⟩ := hu.cons
    obtain ⟨t2, u, rfl, q2, hu⟩ := hu.cons
    have e0 := word_text (s := sService) (by decide) q0
    have ek : topK t0.text = 1 := by rw [e0]; decide
    have hle := items_le l hl
    have hul := hu.len
    rw [List.length_append] at hul
    obtain ⟨ds, h1, h2⟩ := read_items l hl u hu r ((u ++ r).length + 1) (by rw [List.length_append]; omega)
    refine ⟨.mk 1 [n0] 0 0 0 0 ds t0.off, ?_, by unfold Alike; rw [strip, strip, h2]⟩
    show topP (t0 :: t1 :: t2 :: (u ++ r)) = _
    rw [topP_at, ek, if_neg (by decide)]
    show bodyT 1 t0.off (t1 :: t2 :: (u ++ r)) = _
    unfold bodyT
    rw [if_pos rfl, name_word (hnn n0 (by simp)) q1]
    show andP (wantP sOpen (t2 :: (u ++ r))) _ = _
    rw [want_word (by decide) q2]
    show andP (itemsP ((u ++ r).length + 1) (u ++ r)) _ = _
    rw [h1]
    rfl
  · rw [if_pos (by decide)] at hi ha hb hd
    rw [if_neg (by decide)] at hn hl hu
    rw [if_pos rfl] at hu
    subst hn hl
    obtain ⟨t0, u, rfl, q0, hu⟩ := hu.cons
    obtain ⟨t1, u, rfl, q1, hu⟩ := hu.cons
    obtain ⟨t2, u, rfl, q2, hu⟩ := hu.cons
    obtain ⟨t3, u, rfl, q3, hu⟩ := hu.cons
    obtain ⟨t4, u, rfl, q4, hu⟩ := hu.cons
    obtain ⟨t5, u, rfl, q5, hu⟩ := hu.cons
    obtain ⟨t6, u, rfl, q6, hu⟩ := hu.cons
    obtain ⟨t7, u, rfl, q7, hu⟩ := hu.cons
    rw [hu.nil]
    have e0 := word_text (s := sWindow) (by decide) q0
    have ek : topK t0.text = 2 := by rw [e0]; decide
    refine ⟨.mk 2 [] dm i a b [] t0.off, ?_, .of⟩
    show topP (t0 :: t1 :: t2 :: t3 :: t4 :: t5 :: t6 :: t7 :: r) = _
    rw [topP_at, ek, if_neg (by decide)]
    show semiP (bodyT 2 t0.off (t1 :: t2 :: t3 :: t4 :: t5 :: t6 :: t7 :: r)) = _
    unfold semiP bodyT
    rw [if_neg (by decide), if_pos rfl, scope_word hd q1]
    show andP (andP (numP (t2 :: t3 :: t4 :: t5 :: t6 :: t7 :: r)) _) _ = _
    rw [num_word hi q2]
    show andP (andP (wantP sFrom (t3 :: t4 :: t5 :: t6 :: t7 :: r)) _) _ = _
    rw [want_word (by decide) q3]
    show andP (andP (numP (t4 :: t5 :: t6 :: t7 :: r)) _) _ = _
    rw [num_word ha q4]
    show andP (andP (wantP sTo (t5 :: t6 :: t7 :: r)) _) _ = _
    rw [want_word (by decide) q5]
    show andP (andP (numP (t6 :: t7 :: r)) _) _ = _
    rw [num_word hb q6]
    show andP (wantP sSemi (t7 :: r)) _ = _
    rw [want_word (by decide) q7]
    rfl
  · rw [if_pos (by decide)] at hi hd
    rw [if_neg (by decide)] at ha hb hn hl hu
    rw [if_neg (by decide), if_pos rfl] at hu
    subst ha hb hn hl
    obtain ⟨t0, u, rfl, q0, hu⟩ := hu.cons
    obtain ⟨t1, u, rfl, q1, hu⟩ := hu.cons
    obtain ⟨t2, u, rfl, q2, hu⟩ := hu.cons
    obtain ⟨t3, u, rfl, q3, hu⟩ := hu.cons
    rw [hu.nil]
    have e0 := word_text (s := sApprove) (by decide) q0
    have ek : topK t0.text = 3 := by rw [e0]; decide
    refine ⟨.mk 3 [] dm i 0 0 [] t0.off, ?_, .of⟩
    show topP (t0 :: t1 :: t2 :: t3 :: r) = _
    rw [topP_at, ek, if_neg (by decide)]
    show semiP (bodyT 3 t0.off (t1 :: t2 :: t3 :: r)) = _
    unfold semiP bodyT
    rw [if_neg (by decide), if_neg (by decide), if_pos rfl, scope_word hd q1]
    show andP (andP (numP (t2 :: t3 :: r)) _) _ = _
    rw [num_word hi q2]
    show andP (wantP sSemi (t3 :: r)) _ = _
    rw [want_word (by decide) q3]
    rfl
  · rw [if_pos (by decide)] at ha
    rw [if_neg (by decide)] at hi hb hd hn hl hu
    rw [if_neg (by decide), if_neg (by decide), if_pos rfl] at hu
    subst hi hb hd hn hl
    obtain ⟨t0, u, rfl, q0, hu⟩ := hu.cons
    obtain ⟨t1, u, rfl, q1, hu⟩ := hu.cons
    obtain ⟨t2, u, rfl, q2, hu⟩ := hu.cons
    rw [hu.nil]
    have e0 := word_text (s := sBlast) (by decide) q0
    have ek : topK t0.text = 4 := by rw [e0]; decide
    refine ⟨.mk 4 [] 0 0 a 0 [] t0.off, ?_, .of⟩
    show topP (t0 :: t1 :: t2 :: r) = _
    rw [topP_at, ek, if_neg (by decide)]
    show semiP (bodyT 4 t0.off (t1 :: t2 :: r)) = _
    unfold semiP bodyT
    rw [if_neg (by decide), if_neg (by decide), if_neg (by decide), if_pos rfl, num_word ha q1]
    show andP (wantP sSemi (t2 :: r)) _ = _
    rw [want_word (by decide) q2]
    rfl
  · rw [if_pos (by decide)] at hi ha
    rw [if_neg (by decide)] at hb hd hn hl hu
    rw [if_neg (by decide), if_neg (by decide), if_neg (by decide)] at hu
    subst hb hd hn hl
    obtain ⟨t0, u, rfl, q0, hu⟩ := hu.cons
    obtain ⟨t1, u, rfl, q1, hu⟩ := hu.cons
    obtain ⟨t2, u, rfl, q2, hu⟩ := hu.cons
    obtain ⟨t3, u, rfl, q3, hu⟩ := hu.cons
    obtain ⟨t4, u, rfl, q4, hu⟩ := hu.cons
    obtain ⟨t5, u, rfl, q5, hu⟩ := hu.cons
    rw [hu.nil]
    have e0 := word_text (s := sCap) (by decide) q0
    have ek : topK t0.text = 5 := by rw [e0]; decide
    refine ⟨.mk 5 [] 0 i a 0 [] t0.off, ?_, .of⟩
    show topP (t0 :: t1 :: t2 :: t3 :: t4 :: t5 :: r) = _
    rw [topP_at, ek, if_neg (by decide)]
    show semiP (bodyT 5 t0.off (t1 :: t2 :: t3 :: t4 :: t5 :: r)) = _
    unfold semiP bodyT
    rw [if_neg (by decide), if_neg (by decide), if_neg (by decide), if_neg (by decide), want_word (by decide) q1]
    show andP (andP (numP (t2 :: t3 :: t4 :: t5 :: r)) _) _ = _
    rw [num_word hi q2]
    show andP (andP (wantP sAt (t3 :: t4 :: t5 :: r)) _) _ = _
    rw [want_word (by decide) q3]
    show andP (andP (numP (t4 :: t5 :: r)) _) _ = _
    rw [num_word ha q4]
    show andP (wantP sSemi (t5 :: r)) _ = _
    rw [want_word (by decide) q5]
    rfl
theorem textsT_ne {c : Cl} : textsT c ≠ [] := by
  unfold textsT
  split
  · simp
  split
  · simp
  split
  · simp
  split
  · simp
  · simp
theorem read_all : ∀ (cs : List Cl), (∀ c ∈ cs, formT c) → ∀ (u : List Tok), ReadsT u (cs.flatMap textsT) → ∃ ds, allP u = .ok (ds, []) ∧ stripL ds = stripL cs
  | [], _, u, hu => by
    rw [hu.nil]
    exact ⟨[], rfl, rfl⟩
  | c :: cs, h, u, hu => by
    rw [List.flatMap_cons] at hu
    obtain ⟨v, w, rfl, hv, hw⟩ := hu.app
    obtain ⟨d, hd, had⟩ := read_top (h c (by simp)) hv w
    obtain ⟨ds, hds, hal⟩ := read_all cs (fun c' hc => h c' (by simp [hc])) w hw
    refine ⟨d :: ds, ?_, by rw [stripL, stripL, hal, had]⟩
    have hvl := hv.len
    rcases v with _ | ⟨t, v⟩
    · exact absurd (List.length_eq_zero_iff.1 hvl.symm) textsT_ne
    · rw [List.cons_append] at hd ⊢
      rw [allP_cons, hd]
      show andP (allP w) _ = _
      rw [hds]
      rfl

/-! what Print returns -/
/-- The text of clauses. -/
def textC (cs : List Cl) : List UInt8 := joinL [32] (cs.flatMap textsT)
open Classical in
noncomputable def printC (cs : List Cl) : List UInt8 × Nat := if ∀ c ∈ cs, formT c then (if 4096 < (textC cs).length then ([], 3) else (textC cs, 0)) else ([], 1)
/-- A word is a token's text. -/
def rightW (x : List UInt8) : Prop := rightT (fst1 x).1 ∧ (fst1 x).1.text = x
theorem rightW_num {z : Int} (h : okNum z) : rightW (numW z) := by
  have hlt : z.toNat < 1000000000 := by have := h.1; have := h.2; omega
  unfold rightW numW
  rw [fst1_dd hlt]
  exact ⟨right_dd hlt, rfl⟩
theorem rightW_name {n : List UInt8} (h : okName n) : rightW n := by
  have h0 := rightT_fst h.1
  have h1 : fst1 n = (bare ⟨1, n, 0, 0⟩, 0) := h0
  unfold rightW
  rw [h1]
  exact ⟨h.1, rfl⟩
theorem rightW_dom {d : Nat} (h : okDom d) : rightW (domW d) := by
  have h' : d = 1 ∨ d = 2 ∨ d = 3 ∨ d = 4 ∨ d = 5 := by have := h.1; have := h.2; omega
  unfold rightW
  rcases h' with rfl | rfl | rfl | rfl | rfl <;> decide
theorem rightW_comma : ∀ l : List (List UInt8), (∀ n ∈ l, okName n) → ∀ x ∈ commas l, rightW x
  | [], _, x, hx => by simp [commas] at hx
  | n :: l, h, x, hx => by
    rw [commas] at hx
    rcases List.mem_cons.1 hx with rfl | hx
    · unfold rightW; decide
    rcases List.mem_cons.1 hx with rfl | hx
    · exact rightW_name (h _ (by simp))
    · exact rightW_comma l (fun m hm => h m (by simp [hm])) x hx
end Go.Proofs.YtganlldidjbpiaaGreatDoor

namespace Go.Proofs.YtganlldidjbpiaaGreatDoor
open Go

theorem rightW_I {c : Cl} (h : formI c) : ∀ x ∈ textsI c, rightW x := by
  obtain ⟨k, n, dm, i, a, b, l, o⟩ := c
  obtain ⟨⟨hk1, hk2⟩, hi, hb, ha, hd, hn, hnn, hl⟩ := h
  replace hk1 : 6 ≤ k := hk1
  replace hk2 : k ≤ 12 := hk2
  replace hnn : ∀ m ∈ n, okName m := hnn
  replace ha : if k = 10 then a = 0 else okNum a := ha
  replace hd : if k = 9 then okDom dm else dm = 0 := hd
  replace hn : if k = 10 then n ≠ [] else if k = 11 then n.length = 1 else n = [] := hn
  show ∀ x ∈ (if k = 9 then [sSpread, numW a, sPer, domW dm, sSemi] else if k = 10 then sApart :: n.headD [] :: (commas n.tail ++ [sSemi]) else if k = 11 then [sNear, n.headD [], sWithin, numW a, sSemi] else [kindW k, numW a, sSemi]), rightW x
  intro x hx
  by_cases h9 : k = 9
  · rw [if_pos h9] at hx hd
    rw [if_neg (by omega)] at ha
    simp only [List.mem_cons, List.not_mem_nil, or_false] at hx
    rcases hx with rfl | rfl | rfl | rfl | rfl
    · unfold rightW; decide
    · exact rightW_num ha
    · unfold rightW; decide
    · exact rightW_dom hd
    · unfold rightW; decide
  rw [if_neg h9] at hx
  by_cases h10 : k = 10
  · rw [if_pos h10] at hx hn
    obtain ⟨n0, ns, rfl⟩ : ∃ n0 ns, n = n0 :: ns := by cases n with
      | nil => exact absurd rfl hn
      | cons x y => exact ⟨_, _, rfl⟩
    rcases List.mem_cons.1 hx with rfl | hx
    · unfold rightW; decide
    rcases List.mem_cons.1 hx with rfl | hx
    · exact rightW_name (hnn _ (by simp))
    rcases List.mem_append.1 hx with hx | hx
    · exact rightW_comma ns (fun m hm => hnn m (by simp [hm])) x hx
    · rw [List.mem_singleton.1 hx]; unfold rightW; decide
  rw [if_neg h10] at hx ha hn
  by_cases h11 : k = 11
  · rw [if_pos h11] at hx hn
    obtain ⟨n0, rfl⟩ : ∃ n0, n = [n0] := by
      rcases n with _ | ⟨x, _ | ⟨y, z⟩⟩
      · simp at hn
      · exact ⟨_, rfl⟩
      · simp at hn
    simp only [List.mem_cons, List.not_mem_nil, or_false] at hx
    rcases hx with rfl | rfl | rfl | rfl | rfl
    · unfold rightW; decide
    · exact rightW_name (hnn _ (by simp))
    · unfold rightW; decide
    · exact rightW_num ha
    · unfold rightW; decide
  rw [if_neg h11] at hx
  have hk' : k = 6 ∨ k = 7 ∨ k = 8 ∨ k = 12 := by omega
  simp only [List.mem_cons, List.not_mem_nil, or_false] at hx
  rcases hx with rfl | rfl | rfl
  · unfold rightW; rcases hk' with rfl | rfl | rfl | rfl <;> decide
  · exact rightW_num ha
  · unfold rightW; decide
theorem rightW_T {c : Cl} (h : formT c) : ∀ x ∈ textsT c, rightW x := by
  obtain ⟨k, n, dm, i, a, b, l, o⟩ := c
  obtain ⟨⟨hk1, hk2⟩, hi, ha, hb, hd, hn, hnn, hl⟩ := h
  replace hk1 : 1 ≤ k := hk1
  replace hk2 : k ≤ 5 := hk2
  replace hi : if k = 2 ∨ k = 3 ∨ k = 5 then okNum i else i = 0 := hi
  replace ha : if k = 2 ∨ k = 4 ∨ k = 5 then okNum a else a = 0 := ha
  replace hb : if k = 2 then okNum b else b = 0 := hb
  replace hd : if k = 2 ∨ k = 3 then okDom dm else dm = 0 := hd
  replace hn : if k = 1 then n.length = 1 else n = [] := hn
  replace hnn : ∀ m ∈ n, okName m := hnn
  replace hl : if k = 1 then ∀ i ∈ l, formI i else l = [] := hl
  show ∀ x ∈ (if k = 1 then sService :: n.headD [] :: sOpen :: (l.flatMap textsI ++ [sClose])
    else if k = 2 then [sWindow, domW dm, numW i, sFrom, numW a, sTo, numW b, sSemi]
    else if k = 3 then [sApprove, domW dm, numW i, sSemi]
    else if k = 4 then [sBlast, numW a, sSemi]
    else [sCap, sFeed, numW i, sAt, numW a, sSemi]), rightW x
  have hk' : k = 1 ∨ k = 2 ∨ k = 3 ∨ k = 4 ∨ k = 5 := by omega
  intro x hx
  rcases hk' with rfl | rfl | rfl | rfl | rfl
  · rw [if_pos rfl] at hx hn hl
    obtain ⟨n0, rfl⟩ : ∃ n0, n = [n0] := by
      rcases n with _ | ⟨x, _ | ⟨y, z⟩⟩
      · simp at hn
      · exact ⟨_, rfl⟩
      · simp at hn
    rcases List.mem_cons.1 hx with rfl | hx
    · unfold rightW; decide
    rcases List.mem_cons.1 hx with rfl | hx
    · exact rightW_name (hnn _ (by simp))
    rcases List.mem_cons.1 hx with rfl | hx
    · unfold rightW; decide
    rcases List.mem_append.1 hx with hx | hx
    · obtain ⟨d, hd1, hd2⟩ := List.mem_flatMap.1 hx
      exact rightW_I (hl d hd1) x hd2
    · rw [List.mem_singleton.1 hx]; unfold rightW; decide
  · rw [if_pos (by decide)] at hi ha hb hd
    rw [if_neg (by decide), if_pos rfl] at hx
    simp only [List.mem_cons, List.not_mem_nil, or_false] at hx
    rcases hx with rfl | rfl | rfl | rfl | rfl | rfl | rfl | rfl
    · unfold rightW; decide
    · exact rightW_dom hd
    · exact rightW_num hi
    · unfold rightW; decide
    · exact rightW_num ha
    · unfold rightW; decide
    · exact rightW_num hb
    · unfold rightW; decide
  · rw [if_pos (by decide)] at hi hd
    rw [if_neg (by decide), if_neg (by decide), if_pos rfl] at hx
    simp only [List.mem_cons, List.not_mem_nil, or_false] at hx
    rcases hx with rfl | rfl | rfl | rfl
    · unfold rightW; decide
    · exact rightW_dom hd
    · exact rightW_num hi
    · unfold rightW; decide
  · rw [if_pos (by decide)] at ha
    rw [if_neg (by decide), if_neg (by decide), if_neg (by decide), if_pos rfl] at hx
    simp only [List.mem_cons, List.not_mem_nil, or_false] at hx
    rcases hx with rfl | rfl | rfl
    · unfold rightW; decide
    · exact rightW_num ha
    · unfold rightW; decide
  · rw [if_pos (by decide)] at hi ha
    rw [if_neg (by decide), if_neg (by decide), if_neg (by decide), if_neg (by decide)] at hx
    simp only [List.mem_cons, List.not_mem_nil, or_false] at hx
    rcases hx with rfl | rfl | rfl | rfl | rfl | rfl
    · unfold rightW; decide
    · unfold rightW; decide
    · exact rightW_num hi
    · unfold rightW; decide
    · exact rightW_num ha
    · unfold rightW; decide
theorem fst1_bare (x : List UInt8) : bare (fst1 x).1 = (fst1 x).1 := by
  have := fst1_off x
  generalize (fst1 x).1 = t at this ⊢
  obtain ⟨k, s, n, o⟩ := t
  have : o = 0 := this
  subst this
  rfl
/-- The tokens of the words' text. -/
theorem toks_words {ws : List (List UInt8)} (h : ∀ x ∈ ws, rightW x) (hl : ¬ 4096 < (joinL [32] ws).length) : ∃ u, toksF (joinL [32] ws) = (u, 0, 0) ∧ ReadsT u ws := by
  have ht : (ws.map fun x => (fst1 x).1).map Tok.text = ws := by
    rw [List.map_map]
    conv => rhs; rw [← List.map_id ws]
    exact List.map_congr_left (fun x hx => (h x hx).2)
  have hj := items_join [32] (by simp) (by intro c hc; rw [List.mem_singleton.1 hc]; decide) [] rfl (by intro b z e; cases e) (ws.map fun x => (fst1 x).1) 0 (fun t ht => by
    obtain ⟨x, hx, rfl⟩ := List.mem_map.1 ht
    exact (h x hx).1)
  rw [ht, List.append_nil] at hj
  obtain ⟨h1, h2⟩ := okI_bare hj
  refine ⟨(items 0 (joinL [32] ws)).map Prod.fst, ?_, ?_⟩
  · unfold toksF
    rw [if_neg hl, fin_ok _ _ h1, List.nil_append]
  · unfold ReadsT
    rw [h2, List.map_map]
    exact List.map_congr_left (fun x _ => fst1_bare x)
/-- The law of the round. -/
theorem round {cs : List Cl} {s : List UInt8} (h : printC cs = (s, 0)) : ∃ ds, parseF s = (ds, 0, 0) ∧ stripL ds = stripL cs := by
  unfold printC at h
  by_cases hf : ∀ c ∈ cs, formT c
  · rw [if_pos hf] at h
    by_cases hl : 4096 < (textC cs).length
    · rw [if_pos hl] at h; cases h
    · rw [if_neg hl] at h
      injection h with h _
      subst h
      obtain ⟨u, h1, h2⟩ := toks_words (ws := cs.flatMap textsT) (fun x hx => by
        obtain ⟨c, hc, hx⟩ := List.mem_flatMap.1 hx
        exact rightW_T (hf c hc) x hx) hl
      obtain ⟨ds, h3, h4⟩ := read_all cs hf u h2
      refine ⟨ds, ?_, h4⟩
      unfold parseF textC
      rw [h1]
      show (if (0 : Nat) ≠ 0 then _ else _) = _
      rw [if_neg (by simp)]
      show (match allP u with | .error r => _ | .ok (cs, _) => _) = _
      rw [h3]
  · rw [if_neg hf] at h; cases h

/-! what is read can be printed -/
theorem right_name {t : Tok} (h : rightT t) (hn : namedT t = true) : okName t.text := by
  obtain ⟨h0, h1, h2, h3, h4⟩ := h
  unfold namedT at hn
  rw [Bool.and_eq_true] at hn
  obtain ⟨hk, hw⟩ := hn
  have hk : t.kind = 1 := by simpa using hk
  have hz : (fst1 t.text).1.num = 0 := by
    rw [hk] at h2
    cases ht : t.text with
    | nil => exact absurd ht h0
    | cons c m =>
      rw [ht] at h2
      rw [fst1] at h2 ⊢
      split
      · split <;> rfl
      · rename_i hc
        rw [if_neg hc] at h2
        split
        · rename_i hd
          rw [if_pos hd] at h2
          split
          · rfl
          · rename_i h5
            rw [if_neg h5] at h2
            split
            · rfl
            · rename_i h6
              rw [if_neg h6] at h2
              cases h2
        · split <;> rfl
  refine ⟨⟨h0, h1, h2.trans hk, h3, hz⟩, by simpa using hw⟩
theorem right_num {t : Tok} (h : rightT t) (hn : 0 ≤ (fst1 t.text).1.num ∧ (fst1 t.text).1.num < 1000000000) : okNum t.num := by
  obtain ⟨_, _, _, _, h4⟩ := h
  rw [h4] at hn
  unfold okNum
  omega
theorem scope_ok {s : List UInt8} (h : scopeN s ≠ 0) : okDom (scopeN s) := by
  unfold scopeN okDom at *
  split
  · omega
  split
  · omega
  split
  · omega
  split
  · omega
  split
  · omega
  · rename_i h1 h2 h3 h4 h5
    rw [if_neg h1, if_neg h2, if_neg h3, if_neg h4, if_neg h5] at h
    exact absurd rfl h
end Go.Proofs.YtganlldidjbpiaaGreatDoor

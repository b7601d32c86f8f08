/- Lexis, plain laws: tokens of joined texts; what stands between tokens. No program in it.
   Lexis, plain words that meet the library's: strings as lists of bytes; numerals; joined texts; a byte among some. No program in it.
   Lexis, memory words: rows of tokens, variables that collect tokens. -/
import Derived.Test.YtganlldidjbpiaaGreatDoorK01
import Derived.Lib.Strings
import Derived.Lib.Bytealg
import Derived.Lib.Atoi
import Derived.Lib.Join
import Derived.Lib.Hide
import Derived.Test.YtganlldidjbpiaaGreatDoorProg
import Derived.WalkKit
import Derived.WalkLawsBesides
import Derived.WalkSpells
import Derived.Deep.OwnRows
import Derived.Deep.Draws
import Derived.Laws.IdiomStrings
set_option linter.unusedVariables false
namespace Go.Proofs.YtganlldidjbpiaaGreatDoor

theorem isIns_dig {b : UInt8} (h : isIns b = false) : isDig b = false := by
  unfold isIns at h
  cases hd : isDig b
  · rfl
  · rw [hd] at h; simp at h
theorem take_app {l y : List UInt8} {n : Nat} (h : n ≤ l.length) : (l ++ y).take n = l.take n := by
  rw [List.take_append_of_le_length h]
theorem fst1_app (c : UInt8) (m : List UInt8) (b : UInt8) (y : List UInt8) (hb : isIns b = false) : fst1 ((c :: m) ++ b :: y) = fst1 (c :: m) := by
  have hd := isIns_dig hb
  have e1 := runN_app isIns b hb y (c :: m)
  have e2 := runN_app isDig b hd y (c :: m)
  have t1 := take_app (l := c :: m) (y := b :: y) (runN_le isIns (c :: m))
  have t2 := take_app (l := c :: m) (y := b :: y) (runN_le isDig (c :: m))
  simp only [List.cons_append] at e1 e2 t1 t2 ⊢
  rw [fst1, fst1, e1, e2, t1, t2]
theorem fst1_head {c : UInt8} {m : List UInt8} (h : (fst1 (c :: m)).2 = 0) : isBlk c = false ∧ c.toNat ≠ 35 := by
  rw [fst1] at h
  by_cases h1 : isLet c = true
  · unfold isLet at h1; have := of_decide_eq_true h1
    exact ⟨by unfold isBlk; apply decide_eq_false; omega, by omega⟩
  · rw [if_neg h1] at h
    by_cases h2 : isDig c = true
    · unfold isDig at h2; have := of_decide_eq_true h2
      exact ⟨by unfold isBlk; apply decide_eq_false; omega, by omega⟩
    · rw [if_neg h2] at h
      by_cases h3 : isSgn c = true
      · unfold isSgn at h3; have := of_decide_eq_true h3
        exact ⟨by unfold isBlk; apply decide_eq_false; omega, by omega⟩
      · rw [if_neg h3] at h; cases h
theorem runN_runtake (p : UInt8 → Bool) (l : List UInt8) : runN p (l.take (runN p l)) = runN p l := by
  rw [runN_all p _ (runN_take p l), List.length_take]
  have := runN_le p l
  omega
/-- A token's text is read as that token. -/
theorem fst1_self {l : List UInt8} (h : (fst1 l).2 = 0) : fst1 (fst1 l).1.text = fst1 l := by
  cases l with
  | nil => cases h
  | cons c m =>
    rw [fst1] at h
    by_cases h1 : isLet c = true
    · rw [if_pos h1] at h
      by_cases h2 : 12 < runN isIns (c :: m)
      · rw [if_pos h2] at h; cases h
      · have e : fst1 (c :: m) = (⟨1, (c :: m).take (runN isIns (c :: m)), 0, 0⟩, 0) := by rw [fst1, if_pos h1, if_neg h2]
        have e2 := runN_runtake isIns (c :: m)
        have e3 := runN_pos isIns c m (by simp [isIns, h1])
        rw [e]
        simp only
        rw [e3, List.take_succ_cons] at e2 ⊢
        rw [fst1, if_pos h1, e2, if_neg (by omega)]
        congr 3
        rw [List.take_of_length_le]
        simp only [List.length_cons, List.length_take]; omega
    · rw [if_neg h1] at h
      by_cases h2 : isDig c = true
      · rw [if_pos h2] at h
        by_cases h3 : c.toNat = 48 ∧ 1 < runN isDig (c :: m)
        · rw [if_pos h3] at h; cases h
        · rw [if_neg h3] at h
          by_cases h4 : 9 < runN isDig (c :: m)
          · rw [if_pos h4] at h; cases h
          · have e : fst1 (c :: m) = (⟨2, (c :: m).take (runN isDig (c :: m)), numV ((c :: m).take (runN isDig (c :: m))), 0⟩, 0) := by rw [fst1, if_neg h1, if_pos h2, if_neg h3, if_neg h4]
            have e2 := runN_runtake isDig (c :: m)
            have e3 := runN_pos isDig c m h2
            rw [e]
            simp only
            rw [e3] at h3 h4
            rw [e3, List.take_succ_cons] at e2 ⊢
            have e4 : (c :: List.take (runN isDig m) m).take (runN isDig m + 1) = c :: List.take (runN isDig m) m := by
              rw [List.take_of_length_le]
              simp only [List.length_cons, List.length_take]; omega
            rw [fst1, if_neg h1, if_pos h2, e2, if_neg h3, if_neg h4, e4]
      · rw [if_neg h2] at h
        by_cases h3 : isSgn c = true
        · have e : ∀ m, fst1 (c :: m) = (⟨3, [c], 0, 0⟩, 0) := fun m => by rw [fst1, if_neg h1, if_neg h2, if_pos h3]
          rw [e m]; exact e []
        · rw [if_neg h3] at h; cases h
/-- Every byte of a token's text. -/
theorem fst1_bytes {l : List UInt8} (h : (fst1 l).2 = 0) : ∀ c ∈ (fst1 l).1.text, isBlk c = false := by
  have hi : ∀ c : UInt8, isIns c = true → isBlk c = false := by
    intro c hc
    unfold isIns isLet isDig at hc
    unfold isBlk
    apply decide_eq_false
    rw [Bool.or_eq_true, Bool.or_eq_true, decide_eq_true_iff, decide_eq_true_iff, decide_eq_true_iff] at hc
    omega
  cases l with
  | nil => cases h
  | cons c m =>
    rw [fst1] at h ⊢
    by_cases h1 : isLet c = true
    · rw [if_pos h1] at h ⊢
      split at h
      · cases h
      · next h2 =>
        rw [if_neg h2]
        exact fun d hd => hi d (runN_take isIns _ d hd)
    · rw [if_neg h1] at h ⊢
      by_cases h2 : isDig c = true
      · rw [if_pos h2] at h ⊢
        split at h
        · cases h
        · next h3 =>
          rw [if_neg h3]
          split at h
          · cases h
          · next h4 =>
            rw [if_neg h4]
            exact fun d hd => hi d (by have := runN_take isDig _ d hd; simp [isIns, this])
      · rw [if_neg h2] at h ⊢
        by_cases h3 : isSgn c = true
        · rw [if_pos h3] at h ⊢
          intro d hd
          obtain rfl : d = c := by simpa using hd
          unfold isSgn at h3; have := of_decide_eq_true h3
          unfold isBlk; apply decide_eq_false; omega
        · rw [if_neg h3] at h; cases h

/-- Errors among items. -/
def okI (l : List (Tok × Nat)) : Prop := ∀ x ∈ l, x.2 = 0
instance (l : List (Tok × Nat)) : Decidable (okI l) := by unfold okI; infer_instance
theorem fin_ok : ∀ (l : List (Tok × Nat)) (acc : List Tok), okI l → fin l acc = (acc ++ l.map Prod.fst, 0, 0)
  | [], acc, _ => by simp [fin]
  | (t, e) :: r, acc, h => by
    have h0 : e = 0 := h _ (List.mem_cons_self ..)
    rw [fin, if_pos h0, fin_ok r _ (fun x hx => h x (by simp [hx]))]
    simp
theorem fin_app : ∀ (l r : List (Tok × Nat)) (acc : List Tok), okI l → fin (l ++ r) acc = fin r (acc ++ l.map Prod.fst)
  | [], r, acc, _ => by simp
  | (t, e) :: l, r, acc, h => by
    have h0 : e = 0 := h _ (List.mem_cons_self ..)
    rw [List.cons_append, fin, if_pos h0, fin_app l r _ (fun x hx => h x (by simp [hx]))]
    simp
theorem fin_bad : ∀ (l : List (Tok × Nat)), ¬ okI l → ∃ o e, e ≠ 0 ∧ ∀ (r : List (Tok × Nat)) acc, fin (l ++ r) acc = ([], o, e)
  | [], h => (h (fun x hx => by simp at hx)).elim
  | (t, e) :: l, h => by
    by_cases h0 : e = 0
    · obtain ⟨o, f, h1, h2⟩ := fin_bad l (fun hl => h (fun x hx => by
        rcases List.mem_cons.1 hx with rfl | hx
        · exact h0
        · exact hl x hx))
      exact ⟨o, f, h1, fun r acc => by rw [List.cons_append, fin, if_pos h0, h2]⟩
    · exact ⟨t.off, e, h0, fun r acc => by rw [List.cons_append, fin, if_neg h0]⟩
theorem fin_err {l : List (Tok × Nat)} {acc : List Tok} (h : (fin l acc).2.2 ≠ 0) : (fin l acc).1 = [] ∧ ¬ okI l := by
  by_cases hl : okI l
  · rw [fin_ok l acc hl] at h; simp at h
  · obtain ⟨o, e, _, h2⟩ := fin_bad l hl
    have := h2 [] acc
    rw [List.append_nil] at this
    exact ⟨by rw [this], hl⟩
/-- An induction over the items of a text. -/
theorem items_ind {P : Nat → List UInt8 → Prop} (h0 : ∀ o l, skp false l = [] → P o l) (h1 : ∀ o l c m, skp false l = c :: m → (fst1 (c :: m)).2 ≠ 0 → P o l)
    (h2 : ∀ o l c m, skp false l = c :: m → (fst1 (c :: m)).2 = 0 → P (o + idleN l + (fst1 (c :: m)).1.text.length) ((c :: m).drop (fst1 (c :: m)).1.text.length) → P o l) : ∀ o l, P o l := by
  have main : ∀ n o (l : List UInt8), l.length < n → P o l := by
    intro n
    induction n with
    | zero => intro o l h; omega
    | succ n ih =>
      intro o l h
      cases hs : skp false l with
      | nil => exact h0 o l hs
      | cons c m =>
        by_cases he : (fst1 (c :: m)).2 = 0
        · obtain ⟨a1, a2, _⟩ := fst1_text he
          have := skp_len false l
          rw [hs] at this
          exact h2 o l c m hs he (ih _ _ (by rw [List.length_drop]; omega))
        · exact h1 o l c m hs he
  exact fun o l => main _ o l (Nat.lt_succ_self _)
theorem skp_app : ∀ (f : Bool) (a b : List UInt8), skp f (a ++ 10 :: b) = if skp f a = [] then skp false b else skp f a ++ 10 :: b
  | true, [], b => by rw [skp_nil]; simp [skp]
  | false, [], b => by rw [skp_nil]; simp [skp, isBlk]
  | true, c :: a, b => by
    rw [List.cons_append, skp, skp]
    by_cases h : c.toNat = 10
    · rw [if_pos h, if_pos h]; exact skp_app false a b
    · rw [if_neg h, if_neg h]; exact skp_app true a b
  | false, c :: a, b => by
    rw [List.cons_append, skp, skp]
    by_cases h : isBlk c = true
    · rw [if_pos h, if_pos h]; exact skp_app false a b
    · rw [if_neg h, if_neg h]
      by_cases h2 : c.toNat = 35
      · rw [if_pos h2, if_pos h2]; exact skp_app true a b
      · rw [if_neg h2, if_neg h2]; simp
theorem items_shift (k : Nat) : ∀ o l, items (o + k) l = (items o l).map fun x => (x.1.at_ (x.1.off + k), x.2) := by
  refine items_ind ?_ ?_ ?_
  · intro o l h; rw [items_nil h, items_nil h]; rfl
  · intro o l c m h he
    rw [items_bad h he, items_bad h he]
    simp only [List.map_cons, List.map_nil, Tok.at_]
    congr 4
    omega
  · intro o l c m h he ih
    rw [items_cons h he, items_cons h he, List.map_cons, ← ih, show o + idleN l + (fst1 (c :: m)).1.text.length + k = o + k + idleN l + (fst1 (c :: m)).1.text.length by omega]
    simp only [Tok.at_]
    congr 3
    omega
theorem items_apart (b : List UInt8) : ∀ o a, (okI (items o a) → items o (a ++ 10 :: b) = items o a ++ items (o + a.length + 1) b) ∧ (¬ okI (items o a) → items o (a ++ 10 :: b) = items o a) := by
  have idl : ∀ {a c m}, skp false a = c :: m → idleN (a ++ 10 :: b) = idleN a ∧ skp false (a ++ 10 :: b) = c :: (m ++ 10 :: b) := by
    intro a c m h
    have e := skp_app false a b
    rw [h, if_neg (by simp)] at e
    refine ⟨?_, e⟩
    unfold idleN
    rw [e, h]
    simp only [List.length_append, List.length_cons]
    omega
  refine items_ind ?_ ?_ ?_
  · intro o a h
    rw [items_nil h]
    refine ⟨fun _ => ?_, fun h' => (h' (fun x hx => by simp at hx)).elim⟩
    have e := skp_app false a b
    rw [if_pos h] at e
    rw [List.nil_append]
    have hid : idleN (a ++ 10 :: b) = a.length + 1 + idleN b := by
      unfold idleN
      rw [e]
      have := skp_len false b
      simp only [List.length_append, List.length_cons]
      omega
    cases hs : skp false b with
    | nil => rw [items_nil hs, items_nil (e.trans hs)]
    | cons c m =>
      by_cases he : (fst1 (c :: m)).2 = 0
      · rw [items_cons hs he, items_cons (e.trans hs) he, hid, show o + (a.length + 1 + idleN b) = o + a.length + 1 + idleN b by omega]
      · rw [items_bad hs he, items_bad (e.trans hs) he, hid, show o + (a.length + 1 + idleN b) = o + a.length + 1 + idleN b by omega]
  · intro o a c m h he
    obtain ⟨i1, i2⟩ := idl h
    have ef : fst1 (c :: (m ++ 10 :: b)) = fst1 (c :: m) := fst1_app c m 10 b (by decide)
    rw [items_bad h he, items_bad i2 (by rw [ef]; exact he), ef, i1]
    exact ⟨fun h' => (he (h' ((fst1 (c :: m)).1.at_ ((o + idleN a : Nat) : Int), (fst1 (c :: m)).2) (List.mem_cons_self ..))).elim, fun _ => rfl⟩
  · intro o a c m h he ih
    obtain ⟨i1, i2⟩ := idl h
    have ef : fst1 (c :: (m ++ 10 :: b)) = fst1 (c :: m) := fst1_app c m 10 b (by decide)
    obtain ⟨a1, a2, _⟩ := fst1_text he
    have hdr : (c :: (m ++ 10 :: b)).drop (fst1 (c :: m)).1.text.length = (c :: m).drop (fst1 (c :: m)).1.text.length ++ 10 :: b := by
      rw [← List.cons_append, List.drop_append_of_le_length a2]
    have hlen : o + idleN a + (fst1 (c :: m)).1.text.length + ((c :: m).drop (fst1 (c :: m)).1.text.length).length + 1 = o + a.length + 1 := by
      have := idleN_add a
      rw [h] at this
      rw [List.length_drop]
      omega
    rw [hlen] at ih
    rw [items_cons h he, items_cons i2 (by rw [ef]; exact he), ef, i1, hdr]
    refine ⟨fun h' => ?_, fun h' => ?_⟩
    · rw [ih.1 (fun x hx => h' x (by simp [hx]))]; rfl
    · rw [ih.2 (fun hx => h' (fun x hx' => by
        rcases List.mem_cons.1 hx' with rfl | hx'
        · rfl
        · exact hx x hx'))]
/-- Tokens, but for the offsets. -/
def bare (t : Tok) : Tok := t.at_ 0
def bareI (l : List (Tok × Nat)) : List (Tok × Nat) := l.map fun x => (bare x.1, x.2)
theorem bareI_skp {l l' : List UInt8} (h : skp false l = skp false l') (o o' : Nat) : bareI (items o l) = bareI (items o' l') := by
  cases hs : skp false l' with
  | nil => rw [items_nil hs, items_nil (h.trans hs)]
  | cons c m =>
    by_cases he : (fst1 (c :: m)).2 = 0
    · rw [items_cons hs he, items_cons (h.trans hs) he]
      have e : ∀ a b (x : List UInt8), bareI (items a x) = bareI (items b x) := by
        have e1 : ∀ (b : Nat) (x : List UInt8), bareI (items b x) = bareI (items 0 x) := by
          intro b x
          have := items_shift b 0 x
          rw [Nat.zero_add] at this
          rw [this]
          simp only [bareI, bare, Tok.at_, List.map_map, Function.comp_def]
        intro a b x; rw [e1 a, e1 b]
      have e2 := e (o + idleN l + (fst1 (c :: m)).1.text.length) (o' + idleN l' + (fst1 (c :: m)).1.text.length) ((c :: m).drop (fst1 (c :: m)).1.text.length)
      unfold bareI at e2 ⊢
      rw [List.map_cons, List.map_cons, e2]
      rfl
    · rw [items_bad hs he, items_bad (h.trans hs) he]; rfl
theorem fst1_off (l : List UInt8) : (fst1 l).1.off = 0 := by
  cases l with
  | nil => rfl
  | cons c m =>
    rw [fst1]
    split
    · split <;> rfl
    · split
      · split
        · rfl
        · split <;> rfl
      · split <;> rfl
theorem rightT_fst {t : Tok} (h : rightT t) : fst1 t.text = (bare t, 0) := by
  obtain ⟨_, h2, h3, h4, h5⟩ := h
  have h6 := fst1_off t.text
  generalize fst1 t.text = x at *
  obtain ⟨⟨k, tx, n, o⟩, e⟩ := x
  simp only at h2 h3 h4 h5 h6
  subst h2; subst h3; subst h4; subst h5; subst h6
  rfl
theorem blk_ins {b : UInt8} (h : isBlk b = true) : isIns b = false := by
  unfold isBlk at h
  have := of_decide_eq_true h
  unfold isIns isLet isDig
  rw [decide_eq_false (by omega), decide_eq_false (by omega), decide_eq_false (by omega)]
  rfl
theorem skp_blks : ∀ (s y : List UInt8), (∀ c ∈ s, isBlk c = true) → skp false (s ++ y) = skp false y
  | [], _, _ => rfl
  | c :: s, y, h => by rw [List.cons_append, skp_blk (h c (by simp)), skp_blks s y (fun d hd => h d (by simp [hd]))]
/-- Tokens that are right, with blanks between them and nothing but idle text behind, are read back. -/
theorem items_join (sep : List UInt8) (hs : sep ≠ []) (hb : ∀ c ∈ sep, isBlk c = true) (y : List UInt8) (hy : skp false y = []) (hy2 : ∀ b z, y = b :: z → isIns b = false) :
    ∀ (ts : List Tok) (o : Nat), (∀ t ∈ ts, rightT t) → bareI (items o (joinL sep (ts.map Tok.text) ++ y)) = ts.map fun t => (bare t, 0)
  | [], o, _ => by
    rw [List.map_nil, joinL, List.nil_append, items_nil hy]; rfl
  | t :: r, o, h => by
    have hr : rightT t := h t (by simp)
    have hf := rightT_fst hr
    obtain ⟨hne, he, _⟩ := hr
    obtain ⟨c, m, hcm⟩ : ∃ c m, t.text = c :: m := by
      cases ht : t.text with
      | nil => exact (hne ht).elim
      | cons c m => exact ⟨c, m, rfl⟩
    rw [hcm] at he
    obtain ⟨q1, q2⟩ := fst1_head he
    have step : ∀ (z : List UInt8), (∀ b x, z = b :: x → isIns b = false) → bareI (items o (t.text ++ z)) = (bare t, 0) :: bareI (items 0 z) := by
      intro z hz
      have ef : fst1 (c :: (m ++ z)) = (bare t, 0) := by
        rw [← hf, hcm]
        cases z with
        | nil => rw [List.append_nil]
        | cons b x => exact fst1_app c m b x (hz b x rfl)
      have e1 : skp false (t.text ++ z) = c :: (m ++ z) := by rw [hcm, List.cons_append, skp_stop q1 q2]
      have e2 : (bare t).text.length = m.length + 1 := by show t.text.length = _; rw [hcm]; rfl
      have e3 : (c :: (m ++ z)).drop (m.length + 1) = z := by rw [List.drop_succ_cons, List.drop_left']; rfl
      rw [items_cons e1 (by rw [ef]), ef]
      simp only
      rw [e2, e3]
      show (bare ((bare t).at_ _), 0) :: bareI _ = _
      rw [bareI_skp (l := z) (l' := z) rfl _ 0]
      rfl
    cases r with
    | nil =>
      rw [List.map_cons, List.map_nil, joinL, step y hy2, items_nil hy]; rfl
    | cons u r =>
      have ih := items_join sep hs hb y hy hy2 (u :: r) 0 (fun x hx => h x (by simp [hx]))
      rw [List.map_cons, List.map_cons, joinL, List.append_assoc, List.append_assoc, step _ ?_, bareI_skp (skp_blks sep _ hb) 0 0]
      · rw [← List.map_cons (f := Tok.text), ih]; rfl
      · intro b x hx
        cases sep with
        | nil => exact (hs rfl).elim
        | cons b' s =>
          rw [List.cons_append] at hx
          injection hx with e _
          subst e
          exact blk_ins (hb _ (by simp))
/-- All tokens that are read are right. -/
theorem items_right : ∀ o l, ∀ x ∈ items o l, x.2 = 0 → rightT x.1 := by
  refine items_ind ?_ ?_ ?_
  · intro o l h x hx; rw [items_nil h] at hx; simp at hx
  · intro o l c m h he x hx h0
    rw [items_bad h he] at hx
    obtain rfl := List.mem_singleton.1 hx
    exact (he h0).elim
  · intro o l c m h he ih x hx h0
    rw [items_cons h he] at hx
    rcases List.mem_cons.1 hx with rfl | hx
    · have hs := fst1_self he
      obtain ⟨a1, _, _⟩ := fst1_text he
      refine ⟨?_, ?_, ?_, ?_, ?_⟩
      · intro e
        have e' : (fst1 (c :: m)).1.text = [] := e
        rw [e'] at a1; simp at a1
      · show (fst1 (fst1 (c :: m)).1.text).2 = 0
        rw [hs]; exact he
      · show (fst1 (fst1 (c :: m)).1.text).1.kind = _
        rw [hs]; rfl
      · show (fst1 (fst1 (c :: m)).1.text).1.text = _
        rw [hs]; rfl
      · show (fst1 (fst1 (c :: m)).1.text).1.num = _
        rw [hs]; rfl
    · exact ih x hx h0
/-- What the law's own look at a text between tokens says. -/
def idleQ : Bool → List UInt8 → Bool
  | _, [] => true
  | r, c :: l => if c.toNat = 10 then idleQ false l else if r = true ∨ c.toNat = 35 then idleQ true l else if c.toNat = 32 ∨ c.toNat = 9 ∨ c.toNat = 13 then idleQ false l else false
theorem idleQ_skp : ∀ (b : Bool) (l : List UInt8) (k : Nat), k = l.length - (skp b l).length → idleQ b (l.take k) = true
  | b, [], k, _ => by cases b <;> simp [idleQ]
  | true, c :: l, k, hk => by
    have hl1 := skp_len true l
    have hl2 := skp_len false l
    by_cases h : c.toNat = 10
    · rw [skp, if_pos h] at hk
      obtain ⟨j, rfl⟩ : ∃ j, k = j + 1 := ⟨l.length - (skp false l).length, by simp at hk; omega⟩
      rw [List.take_succ_cons, idleQ, if_pos h]
      exact idleQ_skp false l j (by simp at hk; omega)
    · rw [skp, if_neg h] at hk
      obtain ⟨j, rfl⟩ : ∃ j, k = j + 1 := ⟨l.length - (skp true l).length, by simp at hk; omega⟩
      rw [List.take_succ_cons, idleQ, if_neg h, if_pos (.inl rfl)]
      exact idleQ_skp true l j (by simp at hk; omega)
  | false, c :: l, k, hk => by
    have hl1 := skp_len true l
    have hl2 := skp_len false l
    by_cases h : isBlk c = true
    · rw [skp_blk h] at hk
      obtain ⟨j, rfl⟩ : ∃ j, k = j + 1 := ⟨l.length - (skp false l).length, by simp at hk; omega⟩
      have hb : c.toNat = 32 ∨ c.toNat = 9 ∨ c.toNat = 13 ∨ c.toNat = 10 := by unfold isBlk at h; exact of_decide_eq_true h
      have ih := idleQ_skp false l j (by simp at hk; omega)
      rw [List.take_succ_cons, idleQ]
      by_cases h1 : c.toNat = 10
      · rw [if_pos h1]; exact ih
      · rw [if_neg h1, if_neg (by intro h; rcases h with h | h; · cases h
                                  · omega), if_pos (by omega)]; exact ih
    · by_cases h2 : c.toNat = 35
      · rw [skp_hash h2] at hk
        obtain ⟨j, rfl⟩ : ∃ j, k = j + 1 := ⟨l.length - (skp true l).length, by simp at hk; omega⟩
        rw [List.take_succ_cons, idleQ, if_neg (by omega), if_pos (.inr h2)]
        exact idleQ_skp true l j (by simp at hk; omega)
      · rw [skp_stop (by simpa using h) h2] at hk
        obtain rfl : k = 0 := by omega
        rfl
/-- The widened text: a blank becomes three bytes. -/
def widen (c : UInt8) : List UInt8 := if c.toNat = 32 then [32, 13, 10] else [c]
theorem widen_id : ∀ l : List UInt8, (∀ c ∈ l, isBlk c = false) → l.flatMap widen = l
  | [], _ => rfl
  | c :: l, h => by
    have hc := h c (by simp)
    rw [List.flatMap_cons, widen_id l (fun d hd => h d (by simp [hd])), widen, if_neg (by intro e; simp [isBlk, e] at hc)]
    rfl
theorem widen_join : ∀ ts : List (List UInt8), (∀ t ∈ ts, ∀ c ∈ t, isBlk c = false) → (joinL [32] ts).flatMap widen = joinL [32, 13, 10] ts
  | [], _ => rfl
  | [x], h => by rw [joinL, joinL]; exact widen_id x (h x (by simp))
  | x :: y :: r, h => by
    rw [joinL, joinL, List.flatMap_append, List.flatMap_append, widen_id x (h x (by simp)), widen_join (y :: r) (fun t ht => h t (by simp [ht]))]
    rfl
theorem widen_len : ∀ l : List UInt8, (l.flatMap widen).length ≤ 3 * l.length
  | [] => by simp
  | c :: l => by
    have := widen_len l
    have h2 : (widen c).length ≤ 3 := by unfold widen; split <;> simp
    rw [List.flatMap_cons, List.length_append, List.length_cons]
    omega
theorem skp_remark : ∀ (r y : List UInt8), (∀ c ∈ r, c.toNat ≠ 10) → skp true (r ++ y) = skp true y
  | [], _, _ => rfl
  | c :: r, y, h => by rw [List.cons_append, skp, if_neg (h c (by simp)), skp_remark r y (fun d hd => h d (by simp [hd]))]
/-- Tokens of the widened text. -/
theorem wide_items (remark : List UInt8) (hr : ∀ c ∈ remark, c.toNat ≠ 10) (ts : List Tok) (h : ∀ t ∈ ts, rightT t) :
    bareI (items 0 (9 :: 35 :: (remark ++ 10 :: ((joinL [32] (ts.map Tok.text)).flatMap widen ++ 32 :: 35 :: remark)))) = ts.map fun t => (bare t, 0) := by
  have e1 : skp false (9 :: 35 :: (remark ++ 10 :: ((joinL [32] (ts.map Tok.text)).flatMap widen ++ 32 :: 35 :: remark))) = skp false ((joinL [32] (ts.map Tok.text)).flatMap widen ++ 32 :: 35 :: remark) := by
    rw [skp_blk (by decide), skp_hash (by decide), skp_remark _ _ hr]
    rfl
  have hb : ∀ t ∈ ts.map Tok.text, ∀ c ∈ t, isBlk c = false := by
    intro x hx
    obtain ⟨t, ht, rfl⟩ := List.mem_map.1 hx
    have hrt := h t ht
    have hf := fst1_bytes hrt.2.1
    rw [hrt.2.2.2.1] at hf
    exact hf
  rw [bareI_skp e1 0 0, widen_join _ hb]
  refine items_join [32, 13, 10] (by simp) (by decide) _ ?_ ?_ ts 0 h
  · rw [skp_blk (by decide), skp_hash (by decide)]
    have := skp_remark remark [] hr
    rw [List.append_nil] at this
    rw [this]; rfl
  · intro b z hz
    injection hz with e _
    subst e
    decide
theorem okI_bare {l : List (Tok × Nat)} {ts : List Tok} (h : bareI l = ts.map fun t => (bare t, 0)) : okI l ∧ (l.map Prod.fst).map bare = ts.map bare := by
  constructor
  · intro x hx
    have : (bare x.1, x.2) ∈ bareI l := List.mem_map.2 ⟨x, hx, rfl⟩
    rw [h] at this
    obtain ⟨t, _, ht⟩ := List.mem_map.1 this
    injection ht with _ e
    exact e.symm
  · have e := congrArg (List.map Prod.fst) h
    unfold bareI at e
    rw [List.map_map, List.map_map] at e
    rw [List.map_map]
    exact e

/-- Each token stands at its offset, and between them nothing but idle text. -/
def Chain (s : List UInt8) : Nat → List Tok → Prop
  | o, [] => idleQ false (s.drop o) = true
  | o, t :: r => ∃ n : Nat, t.off = (n : Int) ∧ o ≤ n ∧ n + t.text.length ≤ s.length ∧ 0 < t.text.length ∧ idleQ false ((s.take n).drop o) = true ∧ (s.take (n + t.text.length)).drop n = t.text ∧ Chain s (n + t.text.length) r
theorem stands (s : List UInt8) : ∀ o l, o ≤ s.length → l = s.drop o → okI (items o l) → Chain s o ((items o l).map Prod.fst) := by
  refine items_ind ?_ ?_ ?_
  · intro o l h ho hl _
    rw [items_nil h]
    have e := idleQ_skp false l l.length (by rw [h]; simp)
    rw [List.take_length] at e
    show idleQ false (s.drop o) = true
    rw [← hl]; exact e
  · intro o l c m h he ho hl hok
    rw [items_bad h he] at hok
    exact (he (hok ((fst1 (c :: m)).1.at_ ((o + idleN l : Nat) : Int), (fst1 (c :: m)).2) (List.mem_cons_self ..))).elim
  · intro o l c m h he ih ho hl hok
    rw [items_cons h he] at hok ⊢
    have ha := idleN_add l
    have hle := idleN_le l
    have hd := idleN_drop l
    have hll : l.length = s.length - o := by rw [hl, List.length_drop]
    obtain ⟨a1, a2, a3⟩ := fst1_text he
    have hq := idleQ_skp false l (idleN l) rfl
    rw [h] at ha hd
    have hdrop : s.drop (o + idleN l) = c :: m := by rw [← List.drop_drop, ← hl, hd]
    refine ⟨o + idleN l, rfl, by omega, ?_, a1, ?_, ?_, ?_⟩
    · show o + idleN l + (fst1 (c :: m)).1.text.length ≤ s.length
      omega
    · rw [List.drop_take, ← hl, Nat.add_sub_cancel_left]; exact hq
    · show (s.take (o + idleN l + (fst1 (c :: m)).1.text.length)).drop (o + idleN l) = (fst1 (c :: m)).1.text
      rw [List.drop_take, hdrop, Nat.add_sub_cancel_left, ← a3]
    · refine ih (by omega) ?_ (fun x hx => hok x (by simp [hx]))
      rw [← hdrop, List.drop_drop]
end Go.Proofs.YtganlldidjbpiaaGreatDoor

namespace Go.Proofs.YtganlldidjbpiaaGreatDoor

/-- The string of some bytes. -/
def bs (l : List UInt8) : ByteArray := ⟨l.toArray⟩
theorem bs_list (l : List UInt8) : (bs l).data.toList = l := rfl
theorem bs_self (s : ByteArray) : bs s.data.toList = s := rfl
theorem bs_size (l : List UInt8) : (bs l).size = l.length := rfl
theorem bs_get (l : List UInt8) (k : Nat) (h : k < (bs l).size) : (bs l)[k] = l[k]'h := rfl
theorem size_len (s : ByteArray) : s.data.toList.length = s.size := by
  rw [Array.length_toList]; rfl
theorem bs_inj {a b : List UInt8} (h : bs a = bs b) : a = b := by rw [← bs_list a, ← bs_list b, h]
theorem ba_ext {a b : ByteArray} (h : a.data.toList = b.data.toList) : a = b := by
  rw [← bs_self a, ← bs_self b, h]
theorem extract_list (s : ByteArray) (a b : Nat) : (s.extract a b).data.toList = (s.data.toList.take b).drop a := by
  rw [ByteArray.data_extract, Array.toList_extract, List.extract_eq_take_drop]
  rw [List.drop_take]
theorem extract_bs (l : List UInt8) (a b : Nat) : (bs l).extract a b = bs ((l.take b).drop a) := ba_ext (by rw [extract_list, bs_list, bs_list])
theorem extract_front (l : List UInt8) (b : Nat) : (bs l).extract 0 b = bs (l.take b) := by rw [extract_bs, List.drop_zero]
theorem extract_back (l : List UInt8) (a : Nat) : (bs l).extract a (bs l).size = bs (l.drop a) := by
  rw [extract_bs, bs_size, List.take_length]
theorem extract_back' (l : List UInt8) (a b : Nat) (h : l.length ≤ b) : (bs l).extract a b = bs (l.drop a) := by
  rw [extract_bs, List.take_of_length_le h]
theorem append_bs (a b : List UInt8) : bs a ++ bs b = bs (a ++ b) := ba_ext (by
  rw [ByteArray.data_append, Array.toList_append]; rfl)

theorem decFrom_all : ∀ (l : List UInt8) (acc : Nat), (∀ c ∈ l, isDig c = true) → Lib.decFrom acc l = some (l.foldl (fun n c => 10 * n + (c.toNat - 48)) acc)
  | [], acc, _ => rfl
  | c :: l, acc, h => by
    have hc : isDig c = true := h c (by simp)
    have h1 : 48 ≤ c.toNat ∧ c.toNat ≤ 57 := of_decide_eq_true hc
    have hd : Lib.digitVal c = some (c.toNat - 48) := by unfold Lib.digitVal; rw [if_pos h1]
    rw [Lib.decFrom, hd]
    simp only
    rw [decFrom_all l _ (fun d hd => h d (by simp [hd])), List.foldl_cons, Nat.mul_comm]
theorem atoi_dig {l : List UInt8} (h : ∀ c ∈ l, isDig c = true) (h0 : l ≠ []) : Lib.atoi l = some ((numV l : Nat) : Int) := by
  cases l with
  | nil => exact (h0 rfl).elim
  | cons c l =>
    have h1 : 48 ≤ c.toNat ∧ c.toNat ≤ 57 := of_decide_eq_true (h c (by simp))
    have e1 : (c == 45) = false := beq_eq_false_iff_ne.2 (by intro e; subst e; simp at h1)
    have e2 : (c == 43) = false := beq_eq_false_iff_ne.2 (by intro e; subst e; simp at h1)
    unfold Lib.atoi
    simp only [e1, e2]
    unfold Lib.decNat
    rw [if_neg (by simp), decFrom_all _ _ h]
    rfl
theorem numV_snoc (l : List UInt8) (c : UInt8) : numV (l ++ [c]) = 10 * numV l + (c.toNat - 48) := by
  unfold numV; rw [List.foldl_append]; rfl
theorem numV_lt : ∀ (l : List UInt8), (∀ c ∈ l, isDig c = true) → numV l < 10 ^ l.length := by
  have main : ∀ (l : List UInt8) (acc k : Nat), acc < 10 ^ k → (∀ c ∈ l, isDig c = true) → l.foldl (fun n c => 10 * n + (c.toNat - 48)) acc < 10 ^ (k + l.length) := by
    intro l
    induction l with
    | nil => intro acc k h _; exact h
    | cons c l ih =>
      intro acc k h hl
      have h1 : 48 ≤ c.toNat ∧ c.toNat ≤ 57 := of_decide_eq_true (hl c (by simp))
      rw [List.foldl_cons, List.length_cons, show k + (l.length + 1) = (k + 1) + l.length by omega]
      refine ih _ _ ?_ (fun d hd => hl d (by simp [hd]))
      rw [Nat.pow_succ]; omega
  intro l h
  have := main l 0 0 (by decide) h
  rwa [Nat.zero_add] at this
theorem joinL_lib (sep : List UInt8) : ∀ xs : List (List UInt8), joinL sep xs = Lib.join xs sep
  | [] => rfl
  | [x] => by rw [joinL, Lib.join_one]
  | x :: y :: r => by
    rw [joinL, joinL_lib sep (y :: r), Lib.join_cons, Lib.join_cons]
    simp only [Lib.joinTail, List.map_cons, List.flatten_cons, List.append_assoc]
theorem joinL_len (sep : List UInt8) : ∀ xs : List (List UInt8), (joinL sep xs).length = sep.length * (xs.length - 1) + (xs.map List.length).sum
  | [] => by simp [joinL]
  | [x] => by simp [joinL]
  | x :: y :: r => by
    have := joinL_len sep (y :: r)
    rw [joinL, List.length_append, List.length_append, this]
    simp only [List.length_cons, List.map_cons, List.sum_cons, Nat.add_sub_cancel]
    rw [Nat.mul_add]
    omega
theorem uint8_eq {a b : UInt8} : a = b ↔ a.toNat = b.toNat := ⟨fun h => by rw [h], UInt8.toNat_inj.1⟩
theorem index_blk (c : UInt8) : decide (0 ≤ Lib.indexByte [32, 9, 13, 10] c) = isBlk c := by
  have key : ∀ c : UInt8, (0 ≤ Lib.indexByte [32, 9, 13, 10] c) ↔ (c = 32 ∨ c = 9 ∨ c = 13 ∨ c = 10) := by
    intro c
    simp only [Lib.indexByte, beq_iff_eq]
    by_cases h1 : 32 = c
    · simp [h1]
    · by_cases h2 : 9 = c
      · simp [h1, h2]
      · by_cases h3 : 13 = c
        · simp [h1, h2, h3]
        · by_cases h4 : 10 = c
          · simp [h1, h2, h3, h4]
          · simp [h1, h2, h3, h4, Ne.symm h1, Ne.symm h2, Ne.symm h3, Ne.symm h4]
  unfold isBlk
  congr 1
  rw [key c, uint8_eq, uint8_eq, uint8_eq, uint8_eq]
  rfl
theorem index_sgn (c : UInt8) : decide (0 ≤ Lib.indexByte [123, 125, 59, 44] c) = isSgn c := by
  have key : ∀ c : UInt8, (0 ≤ Lib.indexByte [123, 125, 59, 44] c) ↔ (c = 123 ∨ c = 125 ∨ c = 59 ∨ c = 44) := by
    intro c
    simp only [Lib.indexByte, beq_iff_eq]
    by_cases h1 : 123 = c
    · simp [h1]
    · by_cases h2 : 125 = c
      · simp [h1, h2]
      · by_cases h3 : 59 = c
        · simp [h1, h2, h3]
        · by_cases h4 : 44 = c
          · simp [h1, h2, h3, h4]
          · simp [h1, h2, h3, h4, Ne.symm h1, Ne.symm h2, Ne.symm h3, Ne.symm h4]
  unfold isSgn
  congr 1
  rw [key c, uint8_eq, uint8_eq, uint8_eq, uint8_eq]
  rfl
end Go.Proofs.YtganlldidjbpiaaGreatDoor

namespace Go.Proofs.YtganlldidjbpiaaGreatDoor
open Go.RowKit

theorem ret_bool {a b : Bool} (h : a = b) : Ending.returned (.bool a) = .returned (.bool b) := by rw [h]
theorem ret_str {a b : ByteArray} (h : a = b) : Ending.returned (.string a) = .returned (.string b) := by rw [h]
theorem ret_int {k : IntKind} {a b : Int} (h : a = b) : Ending.returned (.int k a) = .returned (.int k b) := by rw [h]
theorem below_drewN (w : World) (n B : Nat) : Below B w (w.drewN n) := ⟨rfl, rfl, rfl, Nat.le_refl _, fun _ _ => rfl⟩
theorem below_dr {B : Nat} {w W : World} (h : Below B w W) : Below B w W.drew := h.trans ⟨rfl, rfl, rfl, Nat.le_refl _, fun _ _ => rfl⟩
theorem held_alloc {B : Nat} {w W : World} {o : Obj} (h : Below B w W) (hB : B ≤ W.heap.size := by omega) : Below B w (W.alloc o) := h.alloc hB o
/-- A cell that was there is still there after calls that leave what was there. -/
theorem keep_cell {W w1 : World} (hb : Below W.heap.size W w1) {b o : Nat} {v : Value} (h : W.cell? ⟨b, o, none⟩ = some v) : w1.cell? ⟨b, o, none⟩ = some v :=
  (hb.cell (p := ⟨b, o, none⟩) (World.block_lt_of_cell? W _ h)).trans h
/-- A block of cells that was there is still there. -/
def Box (w : World) (b : Nat) (cs : Array Value) (t : TypeId) : Prop := w.heap[b]? = some (.cells cs t (0, 0))
section
variable {w w' : World} {b : Nat} {cs : Array Value} {t : TypeId}
theorem Box.new (w : World) (cs : Array Value) (t : TypeId) : Box (w.alloc (.cells cs t)) w.heap.size cs t := heap_alloc_new w _
theorem Box.lt (h : Box w b cs t) : b < w.heap.size := (Array.getElem?_eq_some_iff.1 h).1
theorem Box.after (h : Box w b cs t) (hb : Below w.heap.size w w') : Box w' b cs t := (hb.block b h.lt).trans h
theorem Box.alloc (h : Box w b cs t) (o : Obj) : Box (w.alloc o) b cs t := (Below.heap_alloc w o b h.lt).trans h
theorem Box.cell (h : Box w b cs t) (i : Nat) : w.cell? ⟨b, i, none⟩ = cs[i]? := cell_of_row w b i cs t (0, 0) h
theorem Box.frozen (h : Box w b cs t) (i : Nat) : w.frozen? ⟨b, i, none⟩ = false := by unfold Box at h; simp [World.frozen?, h]
theorem Box.set (h : Box w b cs t) (i : Nat) (u : Value) : Box (w.setCell ⟨b, i, none⟩ u) b (cs.setIfInBounds i u) t := by
  unfold Box at h ⊢
  simp [World.setCell, Array.getElem?_modify, h]
theorem Box.far (h : Box w b cs t) {p : Addr} (hp : b ≠ p.block) (u : Value) : Box (w.setCell p u) b cs t := (Below.heap_setCell w p u b hp).trans h
theorem Box.grown {row : Option Nat} (h : Box w b cs t) (hg : w.grownBy w' row) (hb : some b ≠ row) : Box w' b cs t := (hg.block b h.lt hb).trans h
theorem Box.cells4 {x0 x1 x2 x3 : Value} (h : Box w b #[x0, x1, x2, x3] t) : w.cell? ⟨b, 0, none⟩ = some x0 ∧ w.cell? ⟨b, 1, none⟩ = some x1 ∧ w.cell? ⟨b, 2, none⟩ = some x2 ∧ w.cell? ⟨b, 3, none⟩ = some x3 :=
  ⟨h.cell 0, h.cell 1, h.cell 2, h.cell 3⟩
end
theorem add_off (b off j : Nat) : (⟨b, off, none⟩ : Addr).add j = ⟨b, off + j, none⟩ := by unfold Addr.add; split <;> simp_all

def In64 (z : Int) : Prop := -9223372036854775808 ≤ z ∧ z ≤ 9223372036854775807
/-- A token that Go can hold. -/
def TokOk (t : Tok) : Prop := t.kind < 256 ∧ In64 t.num ∧ In64 t.off ∧ t.text.length ≤ 9223372036854775807
/-- The cells of a token. -/
def cellsOf (t : Tok) : List Value := [.int .u8 (t.kind : Int), .string (bs t.text), .int .i64 t.num, .int .i64 t.off]
def cellsT (ts : List Tok) : List Value := ts.flatMap cellsOf
theorem cellsT_snoc (ts : List Tok) (t : Tok) : cellsT (ts ++ [t]) = cellsT ts ++ cellsOf t := by
  unfold cellsT; rw [List.flatMap_append]; simp
theorem cellsT_len : ∀ ts : List Tok, (cellsT ts).length = ts.length * 4
  | [] => rfl
  | t :: ts => by
    have := cellsT_len ts
    unfold cellsT at this ⊢
    rw [List.flatMap_cons, List.length_append, this]
    simp only [cellsOf, List.length_cons, List.length_nil]
    omega
theorem cellsT_get : ∀ (ts : List Tok) (i : Nat) (t : Tok), ts[i]? = some t → ∀ j, j < 4 → (cellsT ts)[i * 4 + j]? = (cellsOf t)[j]?
  | [], i, t, h, _, _ => by simp at h
  | x :: ts, 0, t, h, j, hj => by
    obtain rfl : x = t := by simpa using h
    unfold cellsT
    rw [List.flatMap_cons, Nat.zero_mul, Nat.zero_add, List.getElem?_append_left (by simpa [cellsOf] using hj)]
  | x :: ts, i + 1, t, h, j, hj => by
    have ih := cellsT_get ts i t (by simpa using h) j hj
    unfold cellsT at ih ⊢
    rw [List.flatMap_cons, List.getElem?_append_right (by simp [cellsOf]; omega), ← ih]
    congr 1
    simp [cellsOf]; omega
/-- Token i of a list. -/
def tok (ts : List Tok) (i : Nat) : Tok := ts.getD i ⟨0, [], 0, 0⟩
theorem tok_get {ts : List Tok} {i : Nat} (h : i < ts.length) : tok ts i = ts[i] := by simp [tok, List.getD, h]
theorem tok_some {ts : List Tok} {i : Nat} (h : i < ts.length) : ts[i]? = some (tok ts i) := by rw [tok_get h, List.getElem?_eq_getElem h]
/-- The slice value v reads as the tokens ts. -/
def SlK (w : World) (v : Value) (ts : List Tok) : Prop :=
  (∀ t ∈ ts, TokOk t) ∧ ∃ (a : Option Addr) (cap : Nat), v = .slice a ts.length cap ∧ ts.length ≤ cap ∧ cap ≤ 9223372036854775807 ∧ (a = none → cap = 0) ∧
    (0 < ts.length → ∃ b off, a = some ⟨b, off, none⟩ ∧ b < w.heap.size ∧ ∀ i, i < ts.length → w.cell? ⟨b, off + i * 4, none⟩ = some (.int .u8 ((tok ts i).kind : Int)) ∧
      w.cell? ⟨b, off + i * 4 + 1, none⟩ = some (.string (bs (tok ts i).text)) ∧ w.cell? ⟨b, off + i * 4 + 2, none⟩ = some (.int .i64 (tok ts i).num) ∧ w.cell? ⟨b, off + i * 4 + 3, none⟩ = some (.int .i64 (tok ts i).off))
section
variable {w w' : World} {v : Value} {ts : List Tok}
theorem SlK.after (h : SlK w v ts) (hb : Below w.heap.size w w') : SlK w' v ts := by
  obtain ⟨h0, a, cap, h1, h2, h3, h5, h6⟩ := h
  refine ⟨h0, a, cap, h1, h2, h3, h5, fun hl => ?_⟩
  obtain ⟨b, off, ha, hlt, hc⟩ := h6 hl
  refine ⟨b, off, ha, Nat.lt_of_lt_of_le hlt hb.size, fun i hi => ?_⟩
  obtain ⟨c0, c1, c2, c3⟩ := hc i hi
  exact ⟨keep_cell hb c0, keep_cell hb c1, keep_cell hb c2, keep_cell hb c3⟩
theorem SlK.nil (w : World) : SlK w (.slice none 0 0) [] := ⟨fun t h => by simp at h, none, 0, rfl, by simp, by omega, fun _ => rfl, fun h => by simp at h⟩
theorem SlK.shape (h : SlK w v ts) : ∃ a cap, v = .slice a ts.length cap ∧ ts.length ≤ cap ∧ cap ≤ 9223372036854775807 ∧ (a = none → cap = 0) := by
  obtain ⟨_, a, cap, h1, h2, h3, h5, _⟩ := h
  exact ⟨a, cap, h1, h2, h3, h5⟩
theorem SlK.at_ (h : SlK w v ts) (hp : 0 < ts.length) : ∃ b off cap, v = .slice (some ⟨b, off, none⟩) ts.length cap ∧ ts.length ≤ cap ∧ cap ≤ 9223372036854775807 ∧ b < w.heap.size ∧ ∀ i, i < ts.length → w.cell? ⟨b, off + i * 4, none⟩ = some (.int .u8 ((tok ts i).kind : Int)) ∧
      w.cell? ⟨b, off + i * 4 + 1, none⟩ = some (.string (bs (tok ts i).text)) ∧ w.cell? ⟨b, off + i * 4 + 2, none⟩ = some (.int .i64 (tok ts i).num) ∧ w.cell? ⟨b, off + i * 4 + 3, none⟩ = some (.int .i64 (tok ts i).off) := by
  obtain ⟨_, a, cap, h1, h2, h3, h5, h6⟩ := h
  obtain ⟨b, off, ha, hlt, hc⟩ := h6 hp
  exact ⟨b, off, cap, by rw [h1, ha], h2, h3, hlt, hc⟩
theorem SlK.ok (h : SlK w v ts) {i : Nat} (hi : i < ts.length) : TokOk (tok ts i) := by rw [tok_get hi]; exact h.1 _ (List.getElem_mem hi)
/-- A part of what a slice reads. -/
theorem SlK.front {a : Option Addr} {len cap : Nat} (h : SlK w (.slice a len cap) ts) (m : Nat) (hm : m ≤ len) : SlK w (.slice a m cap) (ts.take m) := by
  obtain ⟨h0, a', cap', h1, h2, h3, h5, h6⟩ := h
  obtain ⟨rfl, rfl, rfl⟩ : a = a' ∧ len = ts.length ∧ cap = cap' := by injection h1 with e1 e2 e3; exact ⟨e1, e2, e3⟩
  have hl : (ts.take m).length = m := by rw [List.length_take]; omega
  refine ⟨fun t ht => h0 t (List.mem_of_mem_take ht), a, cap, by rw [hl], by rw [hl]; omega, h3, h5, fun hp => ?_⟩
  rw [hl] at hp
  obtain ⟨b, off, e, hlt, hc⟩ := h6 (by omega)
  refine ⟨b, off, e, hlt, fun i hi => ?_⟩
  rw [hl] at hi
  have e2 : tok (ts.take m) i = tok ts i := by unfold tok; simp [List.getD, hi]
  rw [e2]
  exact hc i (by omega)
theorem SlK.back {b off len cap : Nat} (h : SlK w (.slice (some ⟨b, off, none⟩) len cap) ts) (m : Nat) (hm : m ≤ len) : SlK w (.slice (some ⟨b, off + m * 4, none⟩) (len - m) (cap - m)) (ts.drop m) := by
  obtain ⟨h0, a', cap', h1, h2, h3, h5, h6⟩ := h
  obtain ⟨rfl, rfl, rfl⟩ : some ⟨b, off, none⟩ = a' ∧ len = ts.length ∧ cap = cap' := by injection h1 with e1 e2 e3; exact ⟨e1, e2, e3⟩
  have hl : (ts.drop m).length = ts.length - m := List.length_drop
  refine ⟨fun t ht => h0 t (List.mem_of_mem_drop ht), _, _, by rw [hl], by rw [hl]; omega, by omega, (fun h => by cases h), fun hp => ?_⟩
  rw [hl] at hp
  obtain ⟨b', off', e, hlt, hc⟩ := h6 (by omega)
  injection e with e; injection e with e1 e2; subst e1; subst e2
  refine ⟨b, off + m * 4, rfl, hlt, fun i hi => ?_⟩
  rw [hl] at hi
  have e2 : tok (ts.drop m) i = tok ts (m + i) := by unfold tok; simp [List.getD, List.getElem?_drop]
  have e3 : off + m * 4 + i * 4 = off + (m + i) * 4 := by omega
  rw [e2, e3]
  exact hc (m + i) (by omega)
end
theorem grownBy_of_below {w w' : World} (hb : Below w.heap.size w w') : w.grownBy w' none := ⟨hb.os, hb.tape, hb.output, hb.size, fun k hk _ => hb.block k hk⟩
theorem ownsRow_after {w w' : World} {base n size : Nat} {t : TypeId} {v : Value} {xs : List Value} (h : w.ownsRow base t size v n xs) (hb : Below w.heap.size w w') : w'.ownsRow base t size v n xs :=
  h.kept (grownBy_of_below hb) (by cases hv : v.ownBlock <;> simp)
theorem grown_tr {a w w' : World} {row : Option Nat} (h : a.grownBy w row) (k : w.grownBy w' row) : a.grownBy w' row :=
  ⟨k.os.trans h.os, k.tape.trans h.tape, k.output.trans h.output, Nat.le_trans h.size k.size, fun b hb hne => (k.block b (Nat.lt_of_lt_of_le hb h.size) hne).trans (h.block b hb hne)⟩
theorem grown_but {a c : World} (h : a.grownBy c none) (row : Option Nat) : a.grownBy c row := ⟨h.os, h.tape, h.output, h.size, fun i hi _ => h.block i hi (by simp)⟩
theorem grown_below {W1 W W' : World} {row : Option Nat} (h : W1.grownBy W row) (hb : Below W.heap.size W W') : W1.grownBy W' row := grown_tr h (grown_but (grownBy_of_below hb) row)
theorem grown_new {W1 W W' : World} {row r2 : Option Nat} (h : W1.grownBy W row) (hg : W.grownBy W' r2) (hr : ∀ g, r2 = some g → W1.heap.size ≤ g) : W1.grownBy W' row :=
  ⟨hg.os.trans h.os, hg.tape.trans h.tape, hg.output.trans h.output, Nat.le_trans h.size hg.size, fun b hb hne =>
    (hg.block b (Nat.lt_of_lt_of_le hb h.size) (fun e => by have := hr b e.symm; omega)).trans (h.block b hb hne)⟩
theorem grown_set (w : World) (O i : Nat) (u : Value) : w.grownBy (w.setCell ⟨O, i, none⟩ u) (some O) :=
  ⟨rfl, rfl, rfl, by simp [World.setCell], fun b _ hne => Below.heap_setCell w ⟨O, i, none⟩ u b (fun e => hne (by rw [e]))⟩
theorem ownsRow_shape {W : World} {base n size : Nat} {t : TypeId} {v : Value} {xs : List Value} (h : W.ownsRow base t size v n xs) : ∃ p c, v = .slice p n c := by
  rcases h.2 with ⟨rfl, h0⟩ | ⟨g', cap, cur, rfl, _⟩
  · exact ⟨none, 0, by rw [h0]⟩
  · exact ⟨_, _, rfl⟩
theorem SlK.of_own {w : World} {base n : Nat} {t : TypeId} {v : Value} {ts : List Tok} (h : w.ownsRow base t 4 v n (cellsT ts)) (hok : ∀ t ∈ ts, TokOk t) : SlK w v ts := by
  have hn : n = ts.length := by have := h.1; rw [cellsT_len] at this; omega
  subst hn
  rcases h.2 with ⟨rfl, h0⟩ | ⟨g, cap, cur, rfl, _, hg, h3, h4, _, _⟩
  · have : ts = [] := List.length_eq_zero_iff.1 h0
    subst this
    exact SlK.nil w
  · refine ⟨hok, _, cap, rfl, h3, by simpa [maxLen] using h4, (fun h => by cases h), fun _ => ⟨g, 0, rfl, (Array.getElem?_eq_some_iff.1 hg).1, fun i hi => ?_⟩⟩
    have hc := h.cells (g := g) rfl
    have hget := cellsT_get ts i _ (tok_some hi)
    have c0 := hc _ _ ((hget 0 (by omega)).trans rfl)
    have c1 := hc _ _ ((hget 1 (by omega)).trans rfl)
    have c2 := hc _ _ ((hget 2 (by omega)).trans rfl)
    have c3 := hc _ _ ((hget 3 (by omega)).trans rfl)
    rw [add_off] at c0 c1 c2 c3
    exact ⟨c0, c1, c2, c3⟩
theorem infoT : (Tryz.prog.info? 37).map (fun i => (i.zero, i.size, i.bytes)) = some (some (.agg #[.int .u8 0, .string ⟨#[]⟩, .int .i64 0, .int .i64 0]), 4, 40) := by kernel_rfl
end Go.Proofs.YtganlldidjbpiaaGreatDoor

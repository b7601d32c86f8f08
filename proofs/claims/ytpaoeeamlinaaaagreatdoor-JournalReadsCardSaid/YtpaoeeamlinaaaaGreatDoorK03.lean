/- Journal, plain: taking numbers from a list; the record that a line's word and numbers make. No program in sight.
   Journal, plain: what the kit's words for strings say in this proof's words. No program in sight.
   Journal: what the package's variables hold; numerals, trimmed strings, words.
   Regions that draw their order, by an invariant: one step for each operation, whatever came before it. -/
import Derived.Test.YtpaoeeamlinaaaaGreatDoorK02
import Derived.Lib.Split
import Derived.Lib.SlTrimSet
import Derived.Lib.Atoi
import Derived.Lib.SmallJoins
import Derived.Lib.AppendIntMem
import Derived.Shelf.Strings.SlTrimAscii
import Derived.OrdersIn
import Derived.Laws.World
import Derived.Below
import Derived.Test.YtpaoeeamlinaaaaGreatDoorProg
set_option linter.unusedVariables false
namespace Go.Proofs.YtpaoeeamlinaaaaGreatDoor
open Go

/-- What is left to take, and whether a number was missing. -/
abbrev Tk := List Int × Bool
def nx (s : Tk) : Int × Tk := match s.1 with
  | [] => (0, ([], true))
  | x :: t => (x, (t, s.2))
def stepsN : Nat → Tk → List Stp × Tk
  | 0, s => ([], s)
  | n + 1, s => ((stepsN n s).1 ++ [⟨((nx (stepsN n s).2).1 % 256).toNat, (nx (nx (stepsN n s).2).2).1, (nx (nx (nx (stepsN n s).2).2).2).1, (nx (nx (nx (nx (stepsN n s).2).2).2).2).1⟩], (nx (nx (nx (nx (stepsN n s).2).2).2).2).2)
def numsN : Nat → Tk → List Int × Tk
  | 0, s => ([], s)
  | n + 1, s => ((numsN n s).1 ++ [(nx (numsN n s).2).1], (nx (numsN n s).2).2)
def cnt (z : Int) : Nat := (min z 13).toNat
def aftN : Nat → Tk → List (List Int) × Tk
  | 0, s => ([], s)
  | n + 1, s => ((aftN n s).1 ++ [(numsN (cnt (nx (aftN n s).2).1) (nx (aftN n s).2).2).1], (numsN (cnt (nx (aftN n s).2).1) (nx (aftN n s).2).2).2)
def planN (s : Tk) : (List Stp × List (List Int)) × Tk :=
  if 12 < (nx s).1 then (([], []), (nx s).2) else (((stepsN (nx s).1.toNat (nx s).2).1, (aftN (nx s).1.toNat (stepsN (nx s).1.toNat (nx s).2).2).1), (aftN (nx s).1.toNat (stepsN (nx s).1.toNat (nx s).2).2).2)
theorem steps_take (ss : List Stp) (rest : List Int) (m : Bool) (hk : ∀ s ∈ ss, s.kind < 256) : ∀ i, i ≤ ss.length → stepsN i (ss.flatMap stepL ++ rest, m) = (ss.take i, ((ss.drop i).flatMap stepL ++ rest, m))
  | 0, _ => by simp [stepsN]
  | i + 1, hi => by
    have ih := steps_take ss rest m hk i (by omega)
    have hd : ss.drop i = ss[i]'(by omega) :: ss.drop (i + 1) := List.drop_eq_getElem_cons (by omega)
    have hki := hk (ss[i]'(by omega)) (List.getElem_mem _)
    rw [stepsN, ih, hd, List.take_succ_eq_append_getElem (by omega)]
    simp only [nx, List.flatMap_cons, stepL, List.cons_append, List.nil_append]
    have : ((((ss[i]'(by omega)).kind : Int)) % 256).toNat = (ss[i]'(by omega)).kind := by omega
    rw [this]
theorem nums_take (a rest : List Int) (m : Bool) : ∀ i, i ≤ a.length → numsN i (a ++ rest, m) = (a.take i, (a.drop i ++ rest, m))
  | 0, _ => by simp [numsN]
  | i + 1, hi => by
    have ih := nums_take a rest m i (by omega)
    have hd : a.drop i = a[i]'(by omega) :: a.drop (i + 1) := List.drop_eq_getElem_cons (by omega)
    rw [numsN, ih, hd, List.take_succ_eq_append_getElem (by omega)]
    simp only [nx, List.cons_append]
theorem aft_take (az : List (List Int)) (rest : List Int) (m : Bool) (hl : ∀ a ∈ az, a.length ≤ 12) : ∀ i, i ≤ az.length → aftN i (az.flatMap lenL ++ rest, m) = (az.take i, ((az.drop i).flatMap lenL ++ rest, m))
  | 0, _ => by simp [aftN]
  | i + 1, hi => by
    have ih := aft_take az rest m hl i (by omega)
    have hd : az.drop i = az[i]'(by omega) :: az.drop (i + 1) := List.drop_eq_getElem_cons (by omega)
    have hli := hl (az[i]'(by omega)) (List.getElem_mem _)
    rw [aftN, ih, hd, List.take_succ_eq_append_getElem (by omega)]
    generalize az[i]'(by omega) = a at hli
    simp only [nx, List.flatMap_cons, lenL, List.cons_append, List.append_assoc]
    have hc : cnt (a.length : Int) = a.length := by unfold cnt; omega
    rw [hc, nums_take a _ m a.length (Nat.le_refl _)]
    simp
/-- The numbers of a plan are taken back as that plan. -/
theorem plan_take {ss : List Stp} {az : List (List Int)} (hs : ss.length ≤ 12) (ha : az.length = ss.length) (hl : ∀ a ∈ az, a.length ≤ 12) (hk : ∀ s ∈ ss, s.kind < 256) : planN (planned ss az, false) = ((ss, az), ([], false)) := by
  have e1 : nx (planned ss az, false) = ((ss.length : Int), (ss.flatMap stepL ++ az.flatMap lenL, false)) := rfl
  unfold planN
  rw [e1]
  simp only
  rw [if_neg (by omega), Int.toNat_natCast, steps_take ss _ false hk ss.length (Nat.le_refl _)]
  simp only [List.take_length, List.drop_length, List.flatMap_nil, List.nil_append]
  have h2 := aft_take az [] false hl az.length (Nat.le_refl _)
  rw [List.append_nil] at h2
  rw [← ha, h2]
  simp
/-- The record that a kind and numbers make, and what is left of them. -/
def recW (k : Nat) (l : List Int) : Rec × Tk := match k with
  | 1 => (⟨1, 0, 0, 0, 0, (planN (l, false)).1.1, (planN (l, false)).1.2⟩, (planN (l, false)).2)
  | 2 => (⟨2, (nx (l, false)).1, (nx (nx (l, false)).2).1, (nx (nx (nx (l, false)).2).2).1, 0, [], []⟩, (nx (nx (nx (l, false)).2).2).2)
  | 3 => (⟨3, 0, (nx (l, false)).1, 0, ((nx (nx (l, false)).2).1 % 256).toNat, [], []⟩, (nx (nx (l, false)).2).2)
  | k => (⟨k, 0, 0, 0, 0, [], []⟩, (l, false))
/-- Whether all were taken, and none too many. -/
def doneB (s : Tk) : Bool := !s.2 && s.1.length == 0
theorem rec_take {r : Rec} (h : CanW r) : recW r.kind (numsOf r) = (r, ([], false)) := by
  obtain ⟨⟨hb, hsm⟩, hn⟩ := h
  obtain ⟨k, p, i, l, a, ss, az⟩ := r
  unfold Bare at hb
  unfold Small8 at hsm
  unfold numsOf recW
  simp only at hb hsm ⊢
  match k, hb with
  | 1, hb =>
    simp only at hb ⊢
    obtain ⟨⟨rfl, rfl, rfl, rfl⟩, h1, h2, h3⟩ := hb
    rw [plan_take h1 h2 h3 hsm.2]
  | 2, hb =>
    simp only at hb ⊢
    obtain ⟨rfl, rfl, rfl⟩ := hb
    simp [nx]
  | 3, hb =>
    simp only at hb ⊢
    obtain ⟨rfl, rfl, rfl, rfl⟩ := hb
    simp only [nx]
    have : ((a : Int) % 256).toNat = a := by omega
    rw [this]
  | 4, hb =>
    simp only at hb ⊢
    obtain ⟨rfl, rfl, rfl, rfl, rfl, rfl⟩ := hb
    rfl
  | 5, hb =>
    simp only at hb ⊢
    obtain ⟨rfl, rfl, rfl, rfl, rfl, rfl⟩ := hb
    rfl
/-- The kind that a word is; 0: none. -/
def kindW (w : List UInt8) : Nat := if w = wordK 1 then 1 else if w = wordK 2 then 2 else if w = wordK 3 then 3 else if w = wordK 4 then 4 else if w = wordK 5 then 5 else 0
theorem kindW_word {k : Nat} (h1 : 1 ≤ k) (h2 : k ≤ 5) : kindW (wordK k) = k := by
  have : k = 1 ∨ k = 2 ∨ k = 3 ∨ k = 4 ∨ k = 5 := by omega
  rcases this with rfl | rfl | rfl | rfl | rfl <;> decide
/-- Without a space at its end. -/
def trimE (l : List UInt8) : List UInt8 := if l.getLast? = some 32 then l.dropLast else l
/-- The number that a word is, if it is not too great. -/
def numR (w : List UInt8) : Option Int := match numF w with
  | none => none
  | some n => if 1000000 < n then none else some (n : Int)
/-- The word and the numbers of the front of a line. -/
def parsedF (front : List UInt8) : Option (List UInt8 × List Int) := match fld (trimE front) with
  | [] => none
  | w :: ws => match ws.mapM numR with
    | none => none
    | some l => some (w, l)
theorem fld_trim : ∀ (l : List UInt8), fld (l ++ [32]) = fld l ++ [[]]
  | [] => by simp [fld]
  | c :: l => by
    rw [List.cons_append, fld, fld, fld_trim l]
    by_cases hc : c = 32
    · rw [if_pos hc, if_pos hc]; rfl
    · rw [if_neg hc, if_neg hc]
      rcases h : fld l with _ | ⟨w, ws⟩
      · exfalso
        cases l with
        | nil => simp [fld] at h
        | cons x l =>
          unfold fld at h
          split at h
          · cases h
          · split at h <;> cases h
      · rfl
theorem trimE_space (l : List UInt8) : trimE (l ++ [32]) = l := by
  unfold trimE
  rw [if_pos (by simp)]
  simp
theorem numR_dd {z : Int} (h : InR z) : numR (dd z.toNat) = some z := by
  obtain ⟨h1, h2⟩ := h
  unfold numR
  rw [numF_dd (by omega)]
  simp only
  rw [if_neg (by omega)]
  congr 1
  omega
theorem mapM_dd : ∀ {l : List Int}, (∀ z ∈ l, InR z) → (l.map (fun z => dd z.toNat)).mapM numR = some l
  | [], _ => rfl
  | z :: l, h => by
    rw [List.map_cons, List.mapM_cons, numR_dd (h z (by simp)), mapM_dd (fun y hy => h y (by simp [hy]))]
    rfl
theorem parsed_front {r : Rec} (h : CanW r) : parsedF (frontT r) = some (wordK r.kind, numsOf r) := by
  have e1 := fld_front r
  have e2 : frontT r = (wordK r.kind ++ spaced (numsOf r)) ++ [32] := by simp [frontT]
  unfold parsedF
  rw [e2, trimE_space]
  rw [e2, fld_trim] at e1
  have e3 : fld (wordK r.kind ++ spaced (numsOf r)) = wordK r.kind :: (numsOf r).map (fun z => dd z.toNat) := by
    have : fld (wordK r.kind ++ spaced (numsOf r)) ++ [[]] = (wordK r.kind :: (numsOf r).map (fun z => dd z.toNat)) ++ [[]] := by rw [e1]; simp
    exact List.append_cancel_right this
  rw [e3]
  simp only
  rw [mapM_dd h.2]
theorem numR_range {w : List UInt8} {z : Int} (h : numR w = some z) : InR z := by
  unfold numR at h
  split at h
  · cases h
  · split at h
    · cases h
    · injection h with h; subst h; unfold InR; omega
theorem mapM_range : ∀ {ws : List (List UInt8)} {l : List Int}, ws.mapM numR = some l → ∀ z ∈ l, InR z
  | [], l, h => by
    simp at h
    subst h
    intro z hz; simp at hz
  | w :: ws, l, h => by
    rw [List.mapM_cons] at h
    rcases e : numR w with _ | z
    · rw [e] at h; simp at h
    · rw [e] at h
      rcases e2 : ws.mapM numR with _ | m
      · rw [e2] at h; simp at h
      · rw [e2] at h
        simp at h
        subst h
        intro y hy
        rcases List.mem_cons.1 hy with rfl | hy
        · exact numR_range e
        · exact mapM_range e2 y hy
/-- What record returns, as the program makes it. -/
def recP (line : List UInt8) : Rec × Int := match cutC 35 line with
  | none => (Rec.none, 4)
  | some (a, b) => if 4 < b.length then (Rec.none, 4) else match numF b with
    | none => (Rec.none, 4)
    | some n => if n ≠ sumT a then (Rec.none, 17) else match parsedF a with
      | none => (Rec.none, 4)
      | some (w, l) => if doneB (recW (kindW w) l).2 = true ∧ lineF (recW (kindW w) l).1 = (line ++ [10], 0) then ((recW (kindW w) l).1, 0) else (Rec.none, 4)
theorem lineF_ok {r : Rec} {s : List UInt8} (h : lineF r = (s, 0)) : CanW r ∧ lineT r = s := by
  unfold lineF at h
  split at h
  · injection h with h1 _; exact ⟨by assumption, h1⟩
  · injection h with _ h2; cases h2
theorem recP_eq (line : List UInt8) : recP line = recF line := by
  unfold recF recP
  rcases hc : cutC 35 line with _ | ⟨a, b⟩
  · rfl
  simp only
  by_cases hb : 4 < b.length
  · rw [if_pos hb, if_pos hb]
  rw [if_neg hb, if_neg hb]
  rcases hn : numF b with _ | n
  · rfl
  simp only
  by_cases hs : n ≠ sumT a
  · rw [if_pos hs, if_pos hs]
  rw [if_neg hs, if_neg hs]
  have key : ∀ r, CanW r → lineT r = line ++ [10] → frontT r = a := by
    intro r h e
    have hl : line = frontT r ++ 35 :: dd (sumT (frontT r)) := by
      have : frontT r ++ 35 :: dd (sumT (frontT r)) ++ [10] = line ++ [10] := by rw [← e]; simp [lineT]
      exact (List.append_cancel_right this).symm
    rw [hl, cutC_app (fun x hx => (front_no hx).1)] at hc
    injection hc with hc
    exact (Prod.mk.inj hc).1
  have hpar : ∀ r, CanW r → lineT r = line ++ [10] → parsedF a = some (wordK r.kind, numsOf r) := fun r h e => by rw [← key r h e]; exact parsed_front h
  by_cases hex : ∃ r, CanW r ∧ lineT r = line ++ [10]
  · rw [dif_pos hex]
    have hch := Classical.choose_spec hex
    generalize Classical.choose hex = r at hch
    rw [hpar r hch.1 hch.2]
    simp only
    have hk := hch.1.1.1.kind
    rw [kindW_word hk.1 hk.2, rec_take hch.1, if_pos]
    refine ⟨rfl, ?_⟩
    unfold lineF
    rw [if_pos hch.1, hch.2]
  · rw [dif_neg hex]
    rcases parsedF a with _ | ⟨w, l⟩
    · rfl
    simp only
    rw [if_neg]
    rintro ⟨_, h2⟩
    exact hex ⟨_, lineF_ok h2⟩
end Go.Proofs.YtpaoeeamlinaaaaGreatDoor

namespace Go.Proofs.YtpaoeeamlinaaaaGreatDoor
open Go

theorem index_none {c : UInt8} : ∀ {l : List UInt8}, cutC c l = none → Lib.index l [c] = -1
  | [], _ => rfl
  | x :: l, h => by
    unfold cutC at h
    by_cases hx : x = c
    · rw [if_pos hx] at h; cases h
    · rw [if_neg hx] at h
      rcases e : cutC c l with _ | p
      · have ih := index_none e
        have hne : (c == x) = false := beq_eq_false_iff_ne.2 (fun e => hx e.symm)
        unfold Lib.index
        simp [List.isPrefixOf, hne, ih]
      · rw [e] at h; cases h
theorem index_some {c : UInt8} : ∀ {l a b : List UInt8}, cutC c l = some (a, b) → Lib.index l [c] = (a.length : Int) ∧ l = a ++ c :: b
  | [], _, _, h => by cases h
  | x :: l, a, b, h => by
    unfold cutC at h
    by_cases hx : x = c
    · rw [if_pos hx] at h
      injection h with h
      injection h with h1 h2
      subst h1 h2 hx
      unfold Lib.index
      simp [List.isPrefixOf]
    · rw [if_neg hx] at h
      rcases e : cutC c l with _ | ⟨a', b'⟩
      · rw [e] at h; cases h
      · rw [e] at h
        injection h with h
        injection h with h1 h2
        subst h1 h2
        obtain ⟨i1, i2⟩ := index_some e
        have hne : (c == x) = false := beq_eq_false_iff_ne.2 (fun e => hx e.symm)
        refine ⟨?_, by rw [i2]; rfl⟩
        unfold Lib.index
        have hm : ((a'.length : Int) == -1) = false := beq_eq_false_iff_ne.2 (by omega)
        simp [List.isPrefixOf, hne, i1, hm]
/-- Up to the first c, what stands behind it, and whether there is one. -/
def cutT (c : UInt8) (l : List UInt8) : List UInt8 × List UInt8 × Bool := match cutC c l with
  | none => (l, [], false)
  | some (a, b) => (a, b, true)
theorem cut_is (c : UInt8) (l : List UInt8) : Lib.cut l [c] = cutT c l := by
  unfold Lib.cut cutT
  rcases e : cutC c l with _ | ⟨a, b⟩
  · rw [index_none e]; rfl
  · obtain ⟨i1, i2⟩ := index_some e
    rw [i1, if_pos (by omega)]
    simp only [Int.toNat_natCast]
    rw [i2]
    simp
theorem fld_cut {c : UInt8} (hc : c = 32) (l : List UInt8) : fld l = match cutC c l with
    | none => [l]
    | some (a, b) => a :: fld b := by
  subst hc
  rcases cutC_spec (c := 32) (l := l) with ⟨h1, h2⟩ | ⟨a, b, h1, h2, h3⟩
  · rw [h1]
    have : ∀ {l : List UInt8}, (∀ x ∈ l, x ≠ 32) → fld l = [l] := by
      intro l
      induction l with
      | nil => intro _; rfl
      | cons x l ih => intro h; rw [fld, if_neg (h x (by simp)), ih (fun y hy => h y (by simp [hy]))]
    exact this h2
  · rw [h1, h2, fld_app h3]
theorem split_is : ∀ (n : Nat) (l : List UInt8), l.length ≤ n → Lib.split l [32] = fld l
  | n, l, hn => by
    rw [fld_cut rfl l]
    unfold Lib.split
    rcases e : cutC 32 l with _ | ⟨a, b⟩
    · rw [Lib.count_miss (index_none e)]
      rfl
    · obtain ⟨i1, i2⟩ := index_some e
      rw [Lib.count_hit (by simp) i1, Nat.add_comm 1, Lib.splitK]
      have hm : ¬ (Lib.index l [32] == -1) = true := by rw [i1, beq_iff_eq]; omega
      rw [if_neg hm, i1]
      simp only [Int.toNat_natCast, List.length_singleton]
      have hd : l.drop (a.length + 1) = b := by rw [i2]; simp
      have ht : l.take (a.length + 0) = a := by rw [i2]; simp
      rw [hd, ht]
      match n, hn with
      | 0, hn => rw [i2] at hn; simp at hn
      | n + 1, hn => rw [← split_is n b (by rw [i2] at hn; simp at hn; omega)]; rfl
theorem trimSuffix_is (l : List UInt8) : Lib.trimSuffix l [32] = trimE l := by
  unfold Lib.trimSuffix Lib.hasSuffix trimE
  rcases List.eq_nil_or_concat l with rfl | ⟨l', x, rfl⟩
  · rfl
  · rw [List.concat_eq_append]
    by_cases hx : x = 32
    · subst hx
      have h1 : ([32] : List UInt8).isSuffixOf (l' ++ [32]) = true := by rw [List.isSuffixOf_iff_suffix]; exact ⟨l', rfl⟩
      rw [if_pos h1, if_pos (by simp)]
      simp
    · have h1 : ¬ ([32] : List UInt8).isSuffixOf (l' ++ [x]) = true := by
        rw [List.isSuffixOf_iff_suffix]
        rintro ⟨t, ht⟩
        exact hx (List.cons.inj (List.append_inj_right' ht rfl)).1.symm
      rw [if_neg h1, if_neg (by simpa using hx)]
def digs : List UInt8 := [48, 49, 50, 51, 52, 53, 54, 55, 56, 57]
theorem digs_is (c : UInt8) : digs.contains c = isDig c := by
  unfold isDig digs
  simp only [List.contains_cons, List.contains_nil, Bool.or_false]
  rw [Bool.eq_iff_iff]
  simp only [Bool.or_eq_true, beq_iff_eq, decide_eq_true_eq]
  constructor
  · rintro (h | h | h | h | h | h | h | h | h | h) <;> subst h <;> decide
  · intro h
    have hc : c.toNat < 256 := c.toNat_lt
    have e : ∀ k : Nat, k < 256 → c.toNat = k → c = UInt8.ofNat k := fun k hk he => by
      apply UInt8.toNat_inj.1
      rw [he, ofN_toNat hk]
    have : c.toNat = 48 ∨ c.toNat = 49 ∨ c.toNat = 50 ∨ c.toNat = 51 ∨ c.toNat = 52 ∨ c.toNat = 53 ∨ c.toNat = 54 ∨ c.toNat = 55 ∨ c.toNat = 56 ∨ c.toNat = 57 := by omega
    rcases this with h | h | h | h | h | h | h | h | h | h
    · left; exact e 48 (by decide) h
    · right; left; exact e 49 (by decide) h
    · right; right; left; exact e 50 (by decide) h
    · right; right; right; left; exact e 51 (by decide) h
    · right; right; right; right; left; exact e 52 (by decide) h
    · right; right; right; right; right; left; exact e 53 (by decide) h
    · right; right; right; right; right; right; left; exact e 54 (by decide) h
    · right; right; right; right; right; right; right; left; exact e 55 (by decide) h
    · right; right; right; right; right; right; right; right; left; exact e 56 (by decide) h
    · right; right; right; right; right; right; right; right; right; exact e 57 (by decide) h
theorem dropWhile_nil_iff (p : UInt8 → Bool) : ∀ l : List UInt8, l.dropWhile p = [] ↔ l.all p = true
  | [] => by simp
  | x :: l => by
    rw [List.dropWhile_cons]
    cases h : p x
    · simp [h]
    · simp [h, dropWhile_nil_iff p l]
theorem trimS_nil (l : List UInt8) : Lib.trimS l digs = [] ↔ l.all isDig = true := by
  unfold Lib.trimS Lib.trimLeftS Lib.trimRightS
  have hf : (fun x => digs.contains x) = isDig := funext digs_is
  simp only [hf]
  rw [dropWhile_nil_iff, List.all_reverse]
  have key : ∀ m : List UInt8, (m.dropWhile isDig).all isDig = true ↔ m.all isDig = true := by
    intro m
    induction m with
    | nil => simp
    | cons x m ih =>
      rw [List.dropWhile_cons]
      cases h : isDig x
      · simp [h]
      · simp [h]
        simpa using ih
  rw [key, List.all_reverse]
theorem decFrom_all : ∀ (l : List UInt8) (acc : Nat), (∀ c ∈ l, isDig c = true) → Lib.decFrom acc l = some (l.foldl (fun n c => 10 * n + (c.toNat - 48)) acc)
  | [], acc, _ => rfl
  | c :: l, acc, h => by
    have hc : isDig c = true := h c (by simp)
    have h1 : 48 ≤ c.toNat ∧ c.toNat ≤ 57 := of_decide_eq_true hc
    have hd : Lib.digitVal c = some (c.toNat - 48) := by unfold Lib.digitVal; rw [if_pos h1]
    rw [Lib.decFrom, hd]
    simp only
    rw [decFrom_all l _ (fun d hd => h d (by simp [hd])), List.foldl_cons, Nat.mul_comm]
theorem atoi_dig {l : List UInt8} (h : l.all isDig = true) (h0 : l ≠ []) : Lib.atoi l = some ((valD l : Nat) : Int) := by
  rw [List.all_eq_true] at h
  cases l with
  | nil => exact (h0 rfl).elim
  | cons c l =>
    have h1 : 48 ≤ c.toNat ∧ c.toNat ≤ 57 := of_decide_eq_true (h c (by simp))
    have e1 : (c == 45) = false := beq_eq_false_iff_ne.2 (by intro e; subst e; simp at h1)
    have e2 : (c == 43) = false := beq_eq_false_iff_ne.2 (by intro e; subst e; simp at h1)
    unfold Lib.atoi
    simp only [e1, e2]
    unfold Lib.decNat
    rw [if_neg (by simp), decFrom_all _ _ h]
    rfl
theorem itoa_dd {z : Int} (h : 0 ≤ z) : Lib.itoa z = dd z.toNat := by unfold Lib.itoa; rw [if_neg (by omega)]
theorem valD_lt : ∀ (n : Nat) (l : List UInt8), l.length = n → l.all isDig = true → valD l < 10 ^ n
  | 0, l, hn, _ => by
    obtain rfl := List.length_eq_zero_iff.1 hn
    decide
  | n + 1, l, hn, h => by
    rcases List.eq_nil_or_concat l with rfl | ⟨l', c, rfl⟩
    · simp at hn
    · rw [List.concat_eq_append] at hn h ⊢
      rw [List.all_append] at h
      simp only [Bool.and_eq_true] at h
      have h1 := valD_lt n l' (by simpa using hn) h.1
      have h2 : isDig c = true := by simpa using h.2
      have h3 : 48 ≤ c.toNat ∧ c.toNat ≤ 57 := of_decide_eq_true h2
      rw [valD_snoc, Nat.pow_succ]
      omega
theorem numF_lt {w : List UInt8} {n : Nat} (h : numF w = some n) : n < 10000000 := by
  unfold numF at h
  split at h
  · cases h
  · rename_i hn
    injection h with h
    subst h
    have hl : ¬ 7 < w.length := fun e => hn (.inr (.inl e))
    have hd : w.all isDig = true := by
      cases e : w.all isDig
      · exact absurd (.inr (.inr (.inr e))) hn
      · rfl
    have h1 := valD_lt _ w rfl hd
    have : 10 ^ w.length ≤ 10 ^ 7 := Nat.pow_le_pow_right (by decide) (by omega)
    omega
end Go.Proofs.YtpaoeeamlinaaaaGreatDoor

namespace Go.Proofs.YtpaoeeamlinaaaaGreatDoor
open Go.RowKit

/-- journal.words: the words of the kinds. -/
def WordsAt (w : World) : Prop := ∃ b off cap, w.cell? ⟨0, 0, none⟩ = some (.slice (some ⟨b, off, none⟩) 6 cap) ∧ 6 ≤ cap ∧ cap ≤ 9223372036854775807 ∧ b < w.heap.size ∧ ∀ i, i < 6 → w.cell? ⟨b, off + i, none⟩ = some (.string (bs (wordK i)))
def Env (w : World) : Prop := Lib.TabIs Tryz.prog w "internal/strconv.uint64pow10" .u64 Lib.pow10Tab ∧ (∃ m, w.cell? ⟨1, 0, none⟩ = some (.int .i64 m)) ∧ WordsAt w
theorem Env.after {w w' : World} (h : Env w) (hb : Below w.heap.size w w') : Env w' := by
  obtain ⟨h1, ⟨m, h2⟩, b, off, cap, h3, h4, h5, h6, h7⟩ := h
  exact ⟨Joins.tab_stays (g := 2) (by kernel_rfl) h1 hb (Nat.le_refl _), ⟨m, keep_cell hb h2⟩, b, off, cap, keep_cell hb h3, h4, h5, Nat.lt_of_lt_of_le h6 hb.size, fun i hi => keep_cell hb (h7 i hi)⟩
theorem itoa_c (w : World) (z : Int) (h0 : 0 ≤ z) (h1 : z ≤ 9223372036854775807) (he : Env w) : Calls Tryz.prog 44 #[.int .i64 z] w fun e w' => e = .returned (.string (bs (dd z.toNat))) ∧ Below w.heap.size w w' := by
  refine (Tryz.strconv_Itoa z (by omega) h1 w he.1).mono ?_
  rintro e w' ⟨rfl, k, os, rfl⟩
  exact ⟨by rw [itoa_dd h0]; rfl, Lib.below_grow _ _ (Nat.le_refl _) _ _⟩
theorem atoi_c (w : World) (l : List UInt8) (h : l.all isDig = true) (h0 : l ≠ []) (hl : l.length ≤ 18) : Calls Tryz.prog 60 #[.string (bs l)] w fun e w' => e = .returned (.tuple #[.int .i64 (valD l : Int), .nilIface]) ∧ Below w.heap.size w w' := by
  refine (Tryz.strconv_Atoi (bs l) _ hl (atoi_dig h h0) w).mono ?_
  rintro e w' ⟨rfl, t, rfl⟩
  exact ⟨rfl, Joins.below_bytesWorld _ _ _ _ (Nat.le_refl _)⟩
theorem trim_c (w : World) (l : List UInt8) (hl : l.length ≤ 1000000) : Calls Tryz.prog 59 #[.string (bs l), .string (bs digs)] w fun e w' => e = .returned (.string (bs (Lib.trimS l digs))) ∧ Below w.heap.size w w' :=
  Any.strings_Trim_laid Tryz.lays160 (by kernel_rfl) (bs l) (bs digs) w (by rw [bs_size]; omega) (by decide) (ascii_of_all (by decide))
theorem suffix_c (w : World) (l : List UInt8) (hl : l.length ≤ 1000000) : Calls Tryz.prog 62 #[.string (bs l), .string (bs [32])] w fun e w' => e = .returned (.string (bs (trimE l))) ∧ Below w.heap.size w w' := by
  refine (Tryz.strings_TrimSuffix (bs l) (bs [32]) w (by rw [bs_size]; omega)).mono ?_
  rintro e w' ⟨rfl, rfl⟩
  exact ⟨by rw [show (bs l).data.toList = l from rfl, show (bs [32]).data.toList = [32] from rfl, trimSuffix_is]; rfl, Below.refl _ _⟩
theorem cut_c (w : World) (c : UInt8) (l : List UInt8) (hl : l.length ≤ 1000000) (he : Env w) : Calls Tryz.prog 35 #[.string (bs l), .string (bs [c])] w fun e w' => e = .returned (.tuple #[.string (bs (cutT c l).1), .string (bs (cutT c l).2.1), .bool (cutT c l).2.2]) ∧ Below w.heap.size w w' := by
  obtain ⟨m, hm⟩ := he.2.1
  refine (Tryz.strings_Cut (bs l) (bs [c]) m w (by rw [bs_size]; omega) hm).mono ?_
  rintro e w' ⟨rfl, n, rfl⟩
  refine ⟨?_, below_drewN _ _ _⟩
  rw [show (bs l).data.toList = l from rfl, show (bs [c]).data.toList = [c] from rfl, cut_is]
  rfl
/-- A slice of strings. -/
def SlW (w : World) (v : Value) (l : List (List UInt8)) : Prop := SlC w v l.length 1 (fun i _ => .string (bs (l.getD i [])))
theorem split_c (w : World) (l : List UInt8) (hl : l.length ≤ 1000000) (he : Env w) : Calls Tryz.prog 61 #[.string (bs l), .string (bs [32])] w fun e w' => ∃ v, e = .returned v ∧ SlW w' v (fld l) ∧ Below w.heap.size w w' := by
  obtain ⟨m, hm⟩ := he.2.1
  refine (Tryz.strings_Split (bs l) (bs [32]) m w (by rw [bs_size]; omega) hm (by decide)).mono ?_
  rintro e w' ⟨rfl, rfl⟩
  have h1 : (Lib.splitB (bs [32]) 0 (Lib.countB (bs l) (bs [32])) (bs l)).map (·.data.toList) = fld l := by
    rw [Lib.splitB_data]
    exact split_is l.length l (Nat.le_refl _)
  have h2 : (Lib.splitB (bs [32]) 0 (Lib.countB (bs l) (bs [32])) (bs l)).length = Lib.countB (bs l) (bs [32]) + 1 := Lib.splitB_all (bs [32]) (by decide) 0 _ (bs l) rfl
  have h3 : (fld l).length = Lib.countB (bs l) (bs [32]) + 1 := by rw [← h1, List.length_map, h2]
  have h4 : (Lib.splitB (bs [32]) 0 (Lib.countB (bs l) (bs [32])) (bs l)) = (fld l).map bs := by
    rw [← h1, List.map_map]
    exact (List.map_id _).symm
  rw [h4]
  have h5 : (fld l).length ≤ l.length + 1 := by
    have : ∀ m : List UInt8, (fld m).length ≤ m.length + 1 := by
      intro m
      induction m with
      | nil => simp [fld]
      | cons x m ih =>
        unfold fld
        split
        · simp; omega
        · split
          · simp
          · rename_i heq; rw [heq] at ih; simp at ih ⊢; omega
    exact this l
  refine ⟨_, rfl, ?_, held_alloc (Below.refl _ _)⟩
  refine ⟨some ⟨w.heap.size, 0, none⟩, (fld l).length, by rw [h3], Nat.le_refl _, by omega, (fun h => by cases h), fun _ => ⟨w.heap.size, 0, rfl, by simp, fun i hi j hj => ?_⟩⟩
  obtain rfl : j = 0 := by omega
  rw [(Box.new w _ _).cell]
  rw [show 0 + i * 1 + 0 = i by omega]
  simp [List.getElem?_map, List.getD_eq_getElem?_getD, List.getElem?_eq_getElem hi]
end Go.Proofs.YtpaoeeamlinaaaaGreatDoor

namespace Go.Proofs.YtpaoeeamlinaaaaGreatDoor
open Go.RowKit

/-- How many operations are still to come. -/
def toCome (listed : Array Bool) : Nat := listed.toList.count false
theorem ready_mem {md : Region.Mode} {ops : Array Oper} {listed : Array Bool} {i : Nat} (h : i ∈ Region.ready md ops listed) :
    i < ops.size ∧ listed.getD i true = false ∧ ∃ o, ops[i]? = some o ∧ ∀ e ∈ o.after, Region.binds md e = true → listed.getD e.on false = true := by
  unfold Region.ready at h
  rw [List.mem_filter, List.mem_range] at h
  obtain ⟨h1, h2⟩ := h
  rw [Bool.and_eq_true] at h2
  obtain ⟨h2, h3⟩ := h2
  have ho : ops[i]? = some ops[i] := Array.getElem?_eq_getElem h1
  refine ⟨h1, by simpa using h2, ops[i], ho, fun e he hb => ?_⟩
  rw [ho] at h3
  simp only [Option.map_some, Option.getD_some] at h3
  have := Array.all_eq_true'.1 h3 e he
  rw [hb] at this
  simpa using this
theorem toCome_pos {listed : Array Bool} {i : Nat} (h : listed.getD i true = false) : toCome (listed.setIfInBounds i true) + 1 = toCome listed := by
  have hi : i < listed.size := by
    rcases Nat.lt_or_ge i listed.size with h1 | h1
    · exact h1
    · rw [Array.getD_eq_getD_getElem?, Array.getElem?_eq_none h1] at h; cases h
  have hg : listed.toList[i]'(by simpa using hi) = false := by
    rw [Array.getD_eq_getD_getElem?, Array.getElem?_eq_getElem hi] at h
    simpa using h
  unfold toCome
  rw [Array.toList_setIfInBounds, List.count_set (by simpa using hi), hg]
  have hpos : 0 < listed.toList.count false := List.count_pos_iff.2 (hg ▸ List.getElem_mem _)
  change listed.toList.count false - 1 + 0 + 1 = _
  omega
section
variable {P : Program} {ops : Array Oper} {Q : Exit → Act → World → Prop} {md : Region.Mode} {J : Array Bool → Act → World → Prop}

theorem wpAny_inv (hstep : ∀ listed a w i, i ∈ Region.ready md ops listed → J listed a w → wpOp P ops Q i (J (listed.setIfInBounds i true)) a w)
    (hend : ∀ listed a w, Region.ready md ops listed = [] → J listed a w → Q .normal a w) :
    ∀ (fuel : Nat) (listed : Array Bool) (a : Act) (w : World), toCome listed ≤ fuel → J listed a w → wpAny P md ops Q fuel listed a w
  | 0, listed, a, w, hc, hj => by
    have hr : Region.ready md ops listed = [] := by
      rcases hh : Region.ready md ops listed with _ | ⟨i, l⟩
      · rfl
      · have hi : i ∈ Region.ready md ops listed := by rw [hh]; exact List.mem_cons_self ..
        have := toCome_pos (ready_mem hi).2.1
        omega
    exact ⟨hr, hend _ _ _ hr hj⟩
  | fuel + 1, listed, a, w, hc, hj => by
    refine ⟨fun hr => hend _ _ _ hr hj, fun i hi => wpOp_mono (fun a w h => ?_) (hstep listed a w i hi hj)⟩
    exact wpAny_inv hstep hend fuel _ a w (by have := toCome_pos (ready_mem hi).2.1; omega) h
theorem toCome_start (n : Nat) : toCome (Array.replicate n false) ≤ n := by unfold toCome; simp
/-- A region that draws its order, by an invariant. -/
theorem wp_region_inv {id : Nat} {a : Act} {w : World} (hm : P.follows .mixedOrders = true)
    (hstep : ∀ listed a w i, i ∈ Region.ready .any ops listed → J listed a w → wpOp P ops Q i (J (listed.setIfInBounds i true)) a w)
    (hend : ∀ listed a w, Region.ready .any ops listed = [] → J listed a w → Q .normal a w)
    (h0 : J (Array.replicate ops.size false) a w.drew) : (Code.region id ops true).wp P Q a w :=
  wp_region_any hm (wpAny_inv hstep hend ops.size _ _ _ (toCome_start _) h0)
end
section
variable {F : Fence} {n : Nat} {P : Program} {ops : Array Oper} {Q : Exit → Act → World → Prop} {md : Region.Mode} {J : Array Bool → Act → World → Prop}
theorem wpAnyIn_inv (hstep : ∀ listed a w i, i ∈ Region.ready md ops listed → J listed a w → wpOpIn F n P ops Q i (J (listed.setIfInBounds i true)) a w)
    (hend : ∀ listed a w, Region.ready md ops listed = [] → J listed a w → Q .normal a w) :
    ∀ (fuel : Nat) (listed : Array Bool) (a : Act) (w : World), toCome listed ≤ fuel → J listed a w → wpAnyIn F n P md ops Q fuel listed a w
  | 0, listed, a, w, hc, hj => by
    have hr : Region.ready md ops listed = [] := by
      rcases hh : Region.ready md ops listed with _ | ⟨i, l⟩
      · rfl
      · have hi : i ∈ Region.ready md ops listed := by rw [hh]; exact List.mem_cons_self ..
        have := toCome_pos (ready_mem hi).2.1
        omega
    exact ⟨hr, hend _ _ _ hr hj⟩
  | fuel + 1, listed, a, w, hc, hj => by
    refine ⟨fun hr => hend _ _ _ hr hj, fun i hi => wpOpIn_mono (fun a w h => ?_) (hstep listed a w i hi hj)⟩
    exact wpAnyIn_inv hstep hend fuel _ a w (by have := toCome_pos (ready_mem hi).2.1; omega) h
theorem wpIn_region_inv {id : Nat} {a : Act} {w : World} (hm : P.follows .mixedOrders = true)
    (hstep : ∀ listed a w i, i ∈ Region.ready .any ops listed → J listed a w → wpOpIn F n P ops Q i (J (listed.setIfInBounds i true)) a w)
    (hend : ∀ listed a w, Region.ready .any ops listed = [] → J listed a w → Q .normal a w)
    (h0 : J (Array.replicate ops.size false) a w.drew) : (Code.region id ops true).wpIn F n P Q a w :=
  wpIn_region_any hm (wpAnyIn_inv hstep hend ops.size _ _ _ (toCome_start _) h0)
end

/-- What each operation's temporary holds, once it has come up; the other temporaries are as before; memory that stood is as it was. -/
structure FJ (ops : Array Oper) (S : Nat → Value → World → Prop) (a0 : Act) (w0 : World) (listed : Array Bool) (a : Act) (w : World) : Prop where
  below : Below w0.heap.size w0 w
  defers : a.defers = a0.defers
  size : a.tmps.size = a0.tmps.size
  old : ∀ t : Nat, (∀ (k : Nat) (o : Oper), ops[k]? = some o → o.dst ≠ some t) → a.tmps.getD t undef = a0.tmps.getD t undef
  got : ∀ (k : Nat) (o : Oper) (t : Nat), ops[k]? = some o → o.dst = some t → listed.getD k false = true → S k (a.tmps.getD t undef) w
theorem FJ.start (ops : Array Oper) (S : Nat → Value → World → Prop) (a : Act) (w : World) : FJ ops S a w (Array.replicate ops.size false) a w.drew := by
  refine ⟨⟨rfl, rfl, rfl, Nat.le_refl _, fun _ _ => rfl⟩, rfl, rfl, fun _ _ => rfl, fun k o t ho ht hl => ?_⟩
  rw [Array.getD_eq_getD_getElem?, Array.getElem?_replicate] at hl
  split at hl <;> simp at hl
/-- No two operations write one temporary. -/
def DstOnce (ops : Array Oper) : Prop := ∀ (k k' : Nat) (o o' : Oper) (t : Nat), ops[k]? = some o → ops[k']? = some o' → o.dst = some t → o'.dst = some t → k = k'
theorem FJ.step {ops : Array Oper} {S : Nat → Value → World → Prop} {a0 : Act} {w0 : World} {listed : Array Bool} {a : Act} {w w' : World} {i t : Nat} {o : Oper} {v : Value}
    (h : FJ ops S a0 w0 listed a w) (hd : DstOnce ops) (hS : ∀ k v w w', S k v w → Below w.heap.size w w' → S k v w')
    (ho : ops[i]? = some o) (ht : o.dst = some t) (hlt : t < a0.tmps.size) (hb : Below w.heap.size w w') (hv : S i v w') : FJ ops S a0 w0 (listed.setIfInBounds i true) (a.put o.dst v) w' := by
  have hp : a.put o.dst v = { a with tmps := a.tmps.setIfInBounds t v } := by rw [ht]; rfl
  rw [hp]
  refine ⟨h.below.trans (hb.mono h.below.size), h.defers, by simp [h.size], fun t' hn => ?_, fun k o' t' hk ht' hl => ?_⟩
  · have hne : t ≠ t' := fun e => hn i o ho (e ▸ ht)
    show (a.tmps.setIfInBounds t v).getD t' undef = _
    rw [← h.old t' hn, Array.getD_eq_getD_getElem?, Array.getElem?_setIfInBounds_ne hne, ← Array.getD_eq_getD_getElem?]
  · show S k ((a.tmps.setIfInBounds t v).getD t' undef) w'
    by_cases hki : k = i
    · subst hki
      obtain rfl : o = o' := by rw [ho] at hk; exact Option.some.inj hk
      obtain rfl : t = t' := by rw [ht] at ht'; exact Option.some.inj ht'
      rw [Array.getD_eq_getD_getElem?, Array.getElem?_setIfInBounds_self_of_lt (by rw [h.size]; exact hlt)]
      exact hv
    · have hne : t ≠ t' := fun e => hki (hd k i o' o t' hk ho ht' (e ▸ ht))
      rw [Array.getD_eq_getD_getElem?, Array.getElem?_setIfInBounds_ne hne, ← Array.getD_eq_getD_getElem?]
      refine hS _ _ _ _ (h.got k o' t' hk ht' ?_) hb
      rw [Array.getD_eq_getD_getElem?, Array.getElem?_setIfInBounds_ne (fun e => hki e.symm), ← Array.getD_eq_getD_getElem?] at hl
      exact hl
/-- An operation that writes a temporary, whatever came before it. -/
theorem FJ.op {P : Program} {Q : Exit → Act → World → Prop} {ops : Array Oper} {S : Nat → Value → World → Prop} {a0 : Act} {w0 : World} {listed : Array Bool} {a : Act} {w : World} {i t : Nat} {o : Oper}
    (h : FJ ops S a0 w0 listed a w) (hd : DstOnce ops) (hS : ∀ k v w w', S k v w → Below w.heap.size w w' → S k v w')
    (ho : ops[i]? = some o) (ht : o.dst = some t) (hlt : t < a0.tmps.size)
    (hrun : ∀ K : Act → World → Prop, (∀ v w', Below w.heap.size w w' → S i v w' → K (a.put o.dst v) w') → if Region.wanted o (yielded ops a.tmps) = true then o.wp P a w K Q else K (a.put o.dst undef) w) :
    wpOp P ops Q i (FJ ops S a0 w0 (listed.setIfInBounds i true)) a w := by
  have hk := hrun (FJ ops S a0 w0 (listed.setIfInBounds i true)) (fun v w' hb hv => h.step hd hS ho ht hlt hb hv)
  unfold wpOp
  simp only [ho]
  by_cases hw : Region.wanted o (yielded ops a.tmps) = true
  · rw [if_pos hw] at hk
    rw [if_pos hw]
    exact .inl hk
  · rw [if_neg hw] at hk
    rw [if_neg hw]
    exact hk
/-- The same, within a round of a range over a function. -/
theorem FJ.opIn {F : Fence} {n : Nat} {P : Program} {Q : Exit → Act → World → Prop} {ops : Array Oper} {S : Nat → Value → World → Prop} {a0 : Act} {w0 : World} {listed : Array Bool} {a : Act} {w : World} {i t : Nat} {o : Oper}
    (h : FJ ops S a0 w0 listed a w) (hd : DstOnce ops) (hS : ∀ k v w w', S k v w → Below w.heap.size w w' → S k v w')
    (ho : ops[i]? = some o) (ht : o.dst = some t) (hlt : t < a0.tmps.size)
    (hrun : ∀ K : Act → World → Prop, (∀ v w', Below w.heap.size w w' → S i v w' → K (a.put o.dst v) w') → if Region.wanted o (yielded ops a.tmps) = true then o.wpIn F n P a w K Q else (∀ f, o.about P w a.eval = some f → F.fn f) ∧ K (a.put o.dst undef) w) :
    wpOpIn F n P ops Q i (FJ ops S a0 w0 (listed.setIfInBounds i true)) a w := by
  have hk := hrun (FJ ops S a0 w0 (listed.setIfInBounds i true)) (fun v w' hb hv => h.step hd hS ho ht hlt hb hv)
  unfold wpOpIn
  simp only [ho]
  by_cases hw : Region.wanted o (yielded ops a.tmps) = true
  · rw [if_pos hw] at hk
    rw [if_pos hw]
    exact hk
  · rw [if_neg hw] at hk
    rw [if_neg hw]
    exact hk
/-- An array that agrees with another but at the places of D. -/
theorem array_of_old {α : Type} (z : α) : ∀ (D : List Nat) (x y : Array α), x.size = y.size → (∀ t, t ∉ D → x.getD t z = y.getD t z) → x = D.foldl (fun y d => y.setIfInBounds d (x.getD d z)) y
  | [], x, y, hs, h => by
    apply Array.ext hs
    intro i h1 h2
    have := h i (by simp)
    rw [Array.getD_eq_getD_getElem?, Array.getD_eq_getD_getElem?, Array.getElem?_eq_getElem h1, Array.getElem?_eq_getElem h2] at this
    simpa using this
  | d :: D, x, y, hs, h => by
    rw [List.foldl_cons]
    refine array_of_old z D x _ (by simp [hs]) (fun t ht => ?_)
    by_cases e : d = t
    · subst e
      rcases Nat.lt_or_ge d y.size with hd | hd
      · rw [Array.getD_eq_getD_getElem? (xs := y.setIfInBounds _ _), Array.getElem?_setIfInBounds_self_of_lt hd]; rfl
      · rw [Array.getD_eq_getD_getElem?, Array.getD_eq_getD_getElem?, Array.getElem?_eq_none (by omega), Array.getElem?_eq_none (by simp; omega)]
    · rw [Array.getD_eq_getD_getElem? (xs := y.setIfInBounds _ _), Array.getElem?_setIfInBounds_ne e, ← Array.getD_eq_getD_getElem?]
      exact h t (by simp; exact ⟨fun e' => e e'.symm, ht⟩)
end Go.Proofs.YtpaoeeamlinaaaaGreatDoor

/- Syntax, plain: what stands behind the token of an error does not matter. No program in it.
   Syntax, memory words: what is kept where a set of blocks may turn; slices that lie in blocks of a home; tokens, names, clauses; rows that grow. -/
import Derived.Test.YtganlldidjbpiaaGreatDoorK05
import Derived.Test.YtganlldidjbpiaaGreatDoorK02
import Derived.Maps.AppendAt
import Derived.Lib.Hide
import Derived.OwnWalk
set_option linter.unusedVariables false
namespace Go.Proofs.YtganlldidjbpiaaGreatDoor
open Go

/-- What the idle front skips to does not matter. -/
theorem skp_front : ∀ (pre : List UInt8) (b : Bool) (c : UInt8) (m : List UInt8), skp b (pre ++ c :: m) = c :: m → ∀ m', skp b (pre ++ c :: m') = c :: m'
  | [], true, c, m, h, m' => by
    exfalso
    rw [List.nil_append] at h
    have h1 := skp_len false m
    have h2 := skp_len true m
    by_cases hc : c.toNat = 10
    · rw [skp, if_pos hc] at h; rw [h] at h1; simp at h1; omega
    · rw [skp, if_neg hc] at h; rw [h] at h2; simp at h2; omega
  | [], false, c, m, h, m' => by
    rw [List.nil_append] at h ⊢
    have h1 := skp_len false m
    have h2 := skp_len true m
    by_cases hb : isBlk c = true
    · exfalso; rw [skp_blk hb] at h; rw [h] at h1; simp at h1; omega
    · by_cases hc : c.toNat = 35
      · exfalso; rw [skp_hash hc] at h; rw [h] at h2; simp at h2; omega
      · exact skp_stop (by simpa using hb) hc m'
  | d :: pre, true, c, m, h, m' => by
    rw [List.cons_append, skp] at h ⊢
    by_cases hd : d.toNat = 10
    · rw [if_pos hd] at h ⊢; exact skp_front pre false c m h m'
    · rw [if_neg hd] at h ⊢; exact skp_front pre true c m h m'
  | d :: pre, false, c, m, h, m' => by
    rw [List.cons_append] at h ⊢
    by_cases hb : isBlk d = true
    · rw [skp_blk hb] at h ⊢; exact skp_front pre false c m h m'
    · by_cases hc : d.toNat = 35
      · rw [skp_hash hc] at h ⊢; exact skp_front pre true c m h m'
      · exfalso
        rw [skp_stop (by simpa using hb) hc] at h
        have := congrArg List.length h
        simp at this
        omega
theorem runN_take_more {p : UInt8 → Bool} {l : List UInt8} {k : Nat} (h : runN p l < k) : runN p (l.take k) = runN p l := by
  have hle := runN_le p l
  refine runN_eq p (l.take k) (runN p l) (by rw [List.length_take]; omega) (fun i hi hlt => ?_) (fun hi => ?_)
  · rw [List.getElem_take]
    exact runN_in p l i (by rw [List.length_take] at hi; omega) hlt
  · rw [List.getElem_take]
    exact runN_out p l (by rw [List.length_take] at hi; omega)
/-- A token's text, and something more. -/
theorem fst1_more {c : UInt8} {m : List UInt8} {k : Nat} (he : (fst1 (c :: m)).2 = 0) (hk : (fst1 (c :: m)).1.text.length < k) : fst1 ((c :: m).take k) = fst1 (c :: m) := by
  obtain ⟨j, rfl⟩ : ∃ j, k = j + 1 := ⟨k - 1, by omega⟩
  rw [List.take_succ_cons]
  have hr1 : runN isIns (c :: m) < j + 1 → runN isIns (c :: m.take j) = runN isIns (c :: m) := fun h => by
    have := runN_take_more (p := isIns) (l := c :: m) h
    rwa [List.take_succ_cons] at this
  have hr2 : runN isDig (c :: m) < j + 1 → runN isDig (c :: m.take j) = runN isDig (c :: m) := fun h => by
    have := runN_take_more (p := isDig) (l := c :: m) h
    rwa [List.take_succ_cons] at this
  have htk : ∀ n, n < j + 1 → (c :: m.take j).take n = (c :: m).take n := fun n h => by
    rw [← List.take_succ_cons, List.take_take, Nat.min_eq_left (by omega)]
  rw [fst1] at he hk ⊢
  rw [fst1]
  by_cases hl : isLet c = true
  · rw [if_pos hl] at he hk ⊢
    rw [if_pos hl]
    by_cases h12 : 12 < runN isIns (c :: m)
    · rw [if_pos h12] at he; cases he
    · rw [if_neg h12] at hk
      have hlt : runN isIns (c :: m) < j + 1 := by
        have h1 : ((c :: m).take (runN isIns (c :: m))).length = runN isIns (c :: m) := by rw [List.length_take]; have := runN_le isIns (c :: m); omega
        rw [h1] at hk; exact hk
      rw [hr1 hlt, if_neg h12, if_neg h12, htk _ hlt]
  · rw [if_neg hl] at he hk ⊢
    rw [if_neg hl]
    by_cases hd : isDig c = true
    · rw [if_pos hd] at he hk ⊢
      rw [if_pos hd]
      by_cases h0 : c.toNat = 48 ∧ 1 < runN isDig (c :: m)
      · rw [if_pos h0] at he; cases he
      · rw [if_neg h0] at he hk
        by_cases h9 : 9 < runN isDig (c :: m)
        · rw [if_pos h9] at he; cases he
        · rw [if_neg h9] at hk
          have hlt : runN isDig (c :: m) < j + 1 := by
            have h1 : ((c :: m).take (runN isDig (c :: m))).length = runN isDig (c :: m) := by rw [List.length_take]; have := runN_le isDig (c :: m); omega
            rw [h1] at hk; exact hk
          rw [hr2 hlt, if_neg h0, if_neg h0, if_neg h9, if_neg h9, htk _ hlt]
    · rw [if_neg hd, if_neg hd]
/-- A text cut behind a token. -/
theorem items_cut : ∀ (o : Nat) (l : List UInt8), okI (items o l) → ∀ w t r, (items o l).map Prod.fst = w ++ t :: r → ∃ n, 0 < n ∧ n ≤ l.length ∧ t.off + t.text.length = ((o + n : Nat) : Int) ∧ (items o (l.take n)).map Prod.fst = w ++ [t] ∧ okI (items o (l.take n)) := by
  refine items_ind ?_ ?_ ?_
  · intro o l h _ w t r e
    rw [items_nil h] at e
    simp at e
  · intro o l c m h he hok
    rw [items_bad h he] at hok
    exact absurd (hok _ (List.mem_cons_self ..)) he
  · intro o l c m h he ih hok w t r e
    rw [items_cons h he] at hok e
    have hok2 := fun x hx => hok x (List.mem_cons_of_mem _ hx)
    obtain ⟨p1, p2, p3⟩ := fst1_text he
    have hdrop := idleN_drop l
    rw [h] at hdrop
    have hidle := idleN_le l
    have hsplit : l.take (idleN l) ++ c :: m = l := by rw [← hdrop]; exact List.take_append_drop _ _
    have hlen : l.length = idleN l + (m.length + 1) := by
      have := congrArg List.length hsplit
      rw [List.length_append, List.length_take, List.length_cons] at this
      omega
    have htake : ∀ k, l.take (idleN l + k) = l.take (idleN l) ++ (c :: m).take k := fun k => by
      rw [List.take_add, hdrop]
    have hskp : ∀ k, 0 < k → skp false (l.take (idleN l + k)) = (c :: m).take k := fun k hk => by
      obtain ⟨j, rfl⟩ : ∃ j, k = j + 1 := ⟨k - 1, by omega⟩
      rw [htake, List.take_succ_cons]
      exact skp_front _ false c m (by rw [hsplit]; exact h) _
    have hidl : ∀ k, 0 < k → k ≤ m.length + 1 → idleN (l.take (idleN l + k)) = idleN l := fun k hk hk2 => by
      unfold idleN at *
      rw [hskp k hk, List.length_take, List.length_take, List.length_cons]
      omega
    have hp2 : (fst1 (c :: m)).1.text.length ≤ m.length + 1 := p2
    rcases w with _ | ⟨t1, w⟩
    · simp only [List.map_cons, List.nil_append, List.cons.injEq] at e
      obtain ⟨rfl, _⟩ := e
      have hs := hskp _ p1
      have hi := hidl _ p1 hp2
      rw [← p3] at hs
      have hself := fst1_self he
      obtain ⟨c', m', hcm⟩ : ∃ c' m', (fst1 (c :: m)).1.text = c' :: m' := by
        cases ht : (fst1 (c :: m)).1.text with
        | nil => rw [ht] at p1; simp at p1
        | cons x y => exact ⟨_, _, rfl⟩
      have hs' := hs.trans hcm
      have hself' : fst1 (c' :: m') = fst1 (c :: m) := by rw [← hcm]; exact hself
      have hit := items_cons (o := o) hs' (by rw [hself']; exact he)
      have hd0 : (c' :: m').drop (fst1 (c' :: m')).1.text.length = [] := by rw [hself', hcm]; exact List.drop_length
      rw [hd0, items_nil (skp_nil false), hself', hi] at hit
      refine ⟨idleN l + (fst1 (c :: m)).1.text.length, by omega, by omega, ?_, ?_, ?_⟩
      · show (((o + idleN l : Nat) : Int)) + ((fst1 (c :: m)).1.text.length : Int) = _
        omega
      · rw [hit]; rfl
      · rw [hit]
        intro x hx
        rw [List.mem_singleton.1 hx]
    · simp only [List.map_cons, List.cons_append, List.cons.injEq] at e
      obtain ⟨rfl, e⟩ := e
      obtain ⟨n, hn0, hn1, hn2, hn3, hn4⟩ := ih hok2 w t r e
      rw [List.length_drop] at hn1
      have hn1' : n ≤ m.length + 1 - (fst1 (c :: m)).1.text.length := hn1
      obtain ⟨k, hk⟩ : ∃ k, k = (fst1 (c :: m)).1.text.length + n := ⟨_, rfl⟩
      have hs := hskp k (by omega)
      have hi := hidl k (by omega) (by omega)
      have hm := fst1_more he (k := k) (by omega)
      obtain ⟨m', hm'⟩ : ∃ m', (c :: m).take k = c :: m' := by
        obtain ⟨j, hj⟩ : ∃ j, k = j + 1 := ⟨k - 1, by omega⟩
        exact ⟨m.take j, by rw [hj, List.take_succ_cons]⟩
      have hdk : (c :: m').drop (fst1 (c :: m)).1.text.length = ((c :: m).drop (fst1 (c :: m)).1.text.length).take n := by
        rw [← hm', hk, List.drop_take]
        congr 1
        omega
      rw [hm'] at hs hm
      refine ⟨idleN l + k, by omega, by omega, ?_, ?_, ?_⟩
      · rw [hn2]; omega
      · rw [items_cons hs (by rw [hm]; exact he), hm, hi, hdk, List.map_cons, hn3]
        rfl
      · rw [items_cons hs (by rw [hm]; exact he), hm, hi, hdk]
        intro x hx
        rcases List.mem_cons.1 hx with rfl | hx
        · first | exact he | rfl
        · exact hn4 x hx
/-- The offsets rise. -/
theorem items_rise : ∀ (o : Nat) (l : List UInt8), (∀ x ∈ items o l, ((o : Nat) : Int) ≤ x.1.off) ∧ (okI (items o l) → List.Pairwise (fun a b : Tok × Nat => a.1.off < b.1.off) (items o l)) := by
  refine items_ind ?_ ?_ ?_
  · intro o l h
    rw [items_nil h]
    exact ⟨fun x hx => by simp at hx, fun _ => List.Pairwise.nil⟩
  · intro o l c m h he
    rw [items_bad h he]
    refine ⟨fun x hx => ?_, fun hok => absurd (hok _ (List.mem_cons_self ..)) he⟩
    rw [List.mem_singleton.1 hx]
    show ((o : Nat) : Int) ≤ ((o + idleN l : Nat) : Int)
    omega
  · intro o l c m h he ih
    rw [items_cons h he]
    obtain ⟨p1, _⟩ := fst1_text he
    refine ⟨fun x hx => ?_, fun hok => ?_⟩
    · rcases List.mem_cons.1 hx with rfl | hx
      · show ((o : Nat) : Int) ≤ ((o + idleN l : Nat) : Int)
        omega
      · have := ih.1 x hx
        omega
    · refine List.Pairwise.cons (fun x hx => ?_) (ih.2 (fun y hy => hok y (List.mem_cons_of_mem _ hy)))
      have := ih.1 x hx
      show ((o + idleN l : Nat) : Int) < x.1.off
      omega
/-- The law of what stands behind. -/
theorem stable {s beh : List UInt8} {u v : List Tok} {cs : List Cl} {o : Int} {g : Nat} (hs : toksF s = (u, 0, 0)) (hb : toksF beh = (v, 0, 0)) (hp : parseF s = (cs, o, g)) (hg : g ≠ 0) (ho : o < s.length) :
    ∃ w t r n, u = w ++ t :: r ∧ t.off = o ∧ n ≤ s.length ∧ o + t.text.length = (n : Int) ∧ (∀ x ∈ u, x.off = o → x = t) ∧ (¬ 4096 < (s.take n ++ 10 :: beh).length → parseF (s.take n ++ 10 :: beh) = ([], o, g)) := by
  have hok : okI (items 0 s) ∧ u = (items 0 s).map Prod.fst ∧ ¬ 4096 < s.length := by
    unfold toksF at hs
    by_cases hl : 4096 < s.length
    · rw [if_pos hl] at hs
      injection hs with _ hs
      injection hs with _ hs
      cases hs
    · rw [if_neg hl] at hs
      by_cases hok : okI (items 0 s)
      · rw [fin_ok _ _ hok] at hs
        injection hs with hs _
        exact ⟨hok, by rw [← hs]; simp, hl⟩
      · obtain ⟨o', e, he, h⟩ := fin_bad _ hok
        have := h [] []
        rw [List.append_nil] at this
        rw [this] at hs
        injection hs with _ hs
        injection hs with _ hs
        exact absurd hs he
  obtain ⟨hok, hu, hlen⟩ := hok
  rcases ha : allP u with r | ⟨ds, r⟩
  · have h1 := parse_err hs ha
    rw [h1] at hp
    injection hp with _ hp
    injection hp with h2 h3
    subst h3
    rcases r with _ | ⟨t, r⟩
    · exfalso
      rw [← h2] at ho
      exact absurd ho (Int.lt_irrefl _)
    · have h2 : t.off = o := h2
      obtain ⟨w, hw, hall⟩ := allP_err ha
      obtain ⟨n, hn0, hn1, hn2, hn3, hn4⟩ := items_cut 0 s hok w t r (hu.symm.trans hw)
      rw [Nat.zero_add] at hn2
      refine ⟨w, t, r, n, hw, h2, hn1, by rw [← h2]; exact hn2, fun x hx hxo => ?_, fun hl => ?_⟩
      · have hr := (items_rise 0 s).2 hok
        have htm : t ∈ u := by rw [hw]; simp
        rw [hu] at hx htm
        obtain ⟨a, ha1, rfl⟩ := List.mem_map.1 hx
        obtain ⟨b, hb1, rfl⟩ := List.mem_map.1 htm
        have hoff : a.1.off = b.1.off := hxo.trans h2.symm
        obtain ⟨i, hi, rfl⟩ := List.getElem_of_mem ha1
        obtain ⟨j, hj, rfl⟩ := List.getElem_of_mem hb1
        rcases Nat.lt_trichotomy i j with h | h | h
        · have := List.pairwise_iff_getElem.1 hr i j hi hj h; omega
        · subst h; rfl
        · have := List.pairwise_iff_getElem.1 hr j i hj hi h; omega
      · have hlt : ¬ 4096 < (s.take n).length := by rw [List.length_take]; omega
        have htk : toksF (s.take n) = (w ++ [t], 0, 0) := by
          unfold toksF
          rw [if_neg hlt, fin_ok _ _ hn4, hn3]; rfl
        obtain ⟨t1, _, _⟩ := toks_apart (s.take n) beh hl
        have htw := t1 _ htk v hb
        have h5 := hall (v.map (sh (((s.take n).length + 1 : Nat) : Int)))
        have hx : w ++ [t] ++ v.map (sh (((s.take n).length + 1 : Nat) : Int)) = w ++ t :: v.map (sh (((s.take n).length + 1 : Nat) : Int)) := by simp
        rw [hx] at htw
        rw [parse_err htw h5]
        show ([], t.off, 4) = _
        rw [h2]
  · have h1 := parse_ok hs ha
    rw [h1] at hp
    injection hp with _ hp
    injection hp with _ hp
    exact absurd hp.symm hg
end Go.Proofs.YtganlldidjbpiaaGreatDoor

namespace Go.Proofs.YtganlldidjbpiaaGreatDoor
open Go.RowKit

/-- Of the blocks that were there, only those in S may have turned. -/
structure Fx (S : Nat → Prop) (w W : World) : Prop where
  os : W.os = w.os
  tape : W.tape = w.tape
  output : W.output = w.output
  size : w.heap.size ≤ W.heap.size
  block : ∀ b, b < w.heap.size → ¬ S b → W.heap[b]? = w.heap[b]?
section
variable {S : Nat → Prop} {w W W' : World}
theorem Fx.refl (S : Nat → Prop) (w : World) : Fx S w w := ⟨rfl, rfl, rfl, Nat.le_refl _, fun _ _ _ => rfl⟩
theorem Fx.of_below (h : Below w.heap.size w W) : Fx S w W := ⟨h.os, h.tape, h.output, h.size, fun b hb _ => h.block b hb⟩
theorem Fx.trans (h : Fx S w W) (k : Fx S W W') : Fx S w W' :=
  ⟨k.os.trans h.os, k.tape.trans h.tape, k.output.trans h.output, Nat.le_trans h.size k.size, fun b hb hs => (k.block b (Nat.lt_of_lt_of_le hb h.size) hs).trans (h.block b hb hs)⟩
theorem Fx.mono {T : Nat → Prop} (h : Fx S w W) (hT : ∀ b, S b → T b) : Fx T w W := ⟨h.os, h.tape, h.output, h.size, fun b hb hs => h.block b hb fun h => hs (hT b h)⟩
theorem Fx.below (h : Fx S w W) (hb : Below W.heap.size W W') : Fx S w W' := h.trans (Fx.of_below hb)
theorem Fx.new {T : Nat → Prop} (h : Fx S w W) (k : Fx T W W') (hT : ∀ b, T b → S b ∨ w.heap.size ≤ b) : Fx S w W' :=
  ⟨k.os.trans h.os, k.tape.trans h.tape, k.output.trans h.output, Nat.le_trans h.size k.size, fun b hb hs => (k.block b (Nat.lt_of_lt_of_le hb h.size) (fun e => (hT b e).elim hs (fun e => by omega))).trans (h.block b hb hs)⟩
theorem Fx.toBelow {B : Nat} (h : Fx S w W) (hB : B ≤ w.heap.size) (hS : ∀ b, S b → B ≤ b) : Below B w W :=
  ⟨h.os, h.tape, h.output, h.size, fun b hb => h.block b (by omega) fun hs => by have := hS b hs; omega⟩
theorem Fx.grown {row : Option Nat} (h : w.grownBy W row) : Fx (fun b => some b = row) w W := ⟨h.os, h.tape, h.output, h.size, fun b hb hs => h.block b hb hs⟩
theorem Fx.cell {b o : Nat} {v : Value} (hf : Fx S w W) (h : w.cell? ⟨b, o, none⟩ = some v) (hb : ¬ S b) : W.cell? ⟨b, o, none⟩ = some v :=
  (World.cell?_of_block (hf.block b (World.block_lt_of_cell? w ⟨b, o, none⟩ h) hb)).trans h
theorem Box.fx {b : Nat} {cs : Array Value} {t : TypeId} (h : Box w b cs t) (hf : Fx S w W) (hb : ¬ S b) : Box W b cs t := (hf.block b h.lt hb).trans h
theorem Fx.set (w : World) (b o : Nat) (u : Value) : Fx (fun g => g = b) w (w.setCell ⟨b, o, none⟩ u) :=
  ⟨rfl, rfl, rfl, by simp [World.setCell], fun k hk hs => Below.heap_setCell w ⟨b, o, none⟩ u k hs⟩
theorem Fx.alloc (h : Fx S w W) (o : Obj) : Fx S w (W.alloc o) := h.below ((Below.refl _ _).alloc (Nat.le_refl _) o)
theorem Fx.drew (h : Fx S w W) : Fx S w W.drew := ⟨h.os, h.tape, h.output, h.size, h.block⟩
end
/-- The slice value v has n elements of k cells each, which lie in a block of D; cell j of element i is f i j. -/
def SlH (D : Nat → Prop) (w : World) (v : Value) (n k : Nat) (f : Nat → Nat → Value) : Prop :=
  ∃ (a : Option Addr) (cap : Nat), v = .slice a n cap ∧ n ≤ cap ∧ cap ≤ 9223372036854775807 ∧ (a = none → cap = 0) ∧
    (0 < n → ∃ b off, a = some ⟨b, off, none⟩ ∧ D b ∧ b < w.heap.size ∧ ∀ i, i < n → ∀ j, j < k → w.cell? ⟨b, off + i * k + j, none⟩ = some (f i j))
section
variable {D D' S : Nat → Prop} {w W : World} {v : Value} {n k : Nat} {f : Nat → Nat → Value}
theorem SlH.fx (h : SlH D w v n k f) (hf : Fx S w W) (hd : ∀ b, D b → b < w.heap.size → ¬ S b) : SlH D W v n k f := by
  obtain ⟨a, cap, h1, h2, h3, h4, h5⟩ := h
  refine ⟨a, cap, h1, h2, h3, h4, fun hn => ?_⟩
  obtain ⟨b, off, e, hD, hlt, hc⟩ := h5 hn
  exact ⟨b, off, e, hD, Nat.lt_of_lt_of_le hlt hf.size, fun i hi j hj => hf.cell (hc i hi j hj) (hd b hD hlt)⟩
theorem SlH.mono (h : SlH D w v n k f) (hd : ∀ b, D b → b < w.heap.size → D' b) : SlH D' w v n k f := by
  obtain ⟨a, cap, h1, h2, h3, h4, h5⟩ := h
  refine ⟨a, cap, h1, h2, h3, h4, fun hn => ?_⟩
  obtain ⟨b, off, e, hD, hlt, hc⟩ := h5 hn
  exact ⟨b, off, e, hd b hD hlt, hlt, hc⟩
theorem SlH.after (h : SlH D w v n k f) (hb : Below w.heap.size w W) : SlH D W v n k f := h.fx (S := fun _ => False) (Fx.of_below hb) (fun _ _ _ e => e)
theorem SlH.nil (D : Nat → Prop) (w : World) (k : Nat) (f : Nat → Nat → Value) : SlH D w (.slice none 0 0) 0 k f := ⟨none, 0, rfl, by omega, by omega, fun _ => rfl, fun h => by omega⟩
theorem SlH.shape (h : SlH D w v n k f) : ∃ a cap, v = .slice a n cap ∧ n ≤ cap ∧ cap ≤ 9223372036854775807 ∧ (a = none → cap = 0) := by
  obtain ⟨a, cap, h1, h2, h3, h4, _⟩ := h
  exact ⟨a, cap, h1, h2, h3, h4⟩
theorem SlH.at_ (h : SlH D w v n k f) (hn : 0 < n) : ∃ b off cap, v = .slice (some ⟨b, off, none⟩) n cap ∧ n ≤ cap ∧ cap ≤ 9223372036854775807 ∧ D b ∧ b < w.heap.size ∧ ∀ i, i < n → ∀ j, j < k → w.cell? ⟨b, off + i * k + j, none⟩ = some (f i j) := by
  obtain ⟨a, cap, h1, h2, h3, _, h5⟩ := h
  obtain ⟨b, off, e, hD, hlt, hc⟩ := h5 hn
  exact ⟨b, off, cap, by rw [h1, e], h2, h3, hD, hlt, hc⟩
end
/-- Tokens. -/
def tokV (t : Tok) : Value := .agg #[.int .u8 (t.kind : Int), .string (bs t.text), .int .i64 t.num, .int .i64 t.off]
def tokC (t : Tok) (j : Nat) : Value := (cellsOf t).getD j undef
def SlT (D : Nat → Prop) (w : World) (v : Value) (ts : List Tok) : Prop := (∀ t ∈ ts, TokOk t) ∧ SlH D w v ts.length 4 (fun i j => tokC (tok ts i) j)
section
variable {D S : Nat → Prop} {w W : World} {v : Value} {ts : List Tok}
theorem SlT.fx (h : SlT D w v ts) (hf : Fx S w W) (hd : ∀ b, D b → b < w.heap.size → ¬ S b) : SlT D W v ts := ⟨h.1, h.2.fx hf hd⟩
theorem SlK.slT (h : SlK w v ts) : SlT (fun b => b < w.heap.size) w v ts := by
  obtain ⟨h0, a, cap, h1, h2, h3, h5, h6⟩ := h
  refine ⟨h0, a, cap, h1, h2, h3, h5, fun hl => ?_⟩
  obtain ⟨b, off, ha, hlt, hc⟩ := h6 hl
  refine ⟨b, off, ha, hlt, hlt, fun i hi j hj => ?_⟩
  obtain ⟨c0, c1, c2, c3⟩ := hc i hi
  match j, hj with
  | 0, _ => exact c0
  | 1, _ => exact c1
  | 2, _ => exact c2
  | 3, _ => exact c3
theorem SlT.mono {D' : Nat → Prop} (h : SlT D w v ts) (hd : ∀ b, D b → b < w.heap.size → D' b) : SlT D' w v ts := ⟨h.1, h.2.mono hd⟩
/-- The first token, and the rest. -/
theorem SlT.head {t : Tok} (h : SlT D w v (t :: ts)) : ∃ b off cap, v = .slice (some ⟨b, off, none⟩) (ts.length + 1) cap ∧ ts.length + 1 ≤ cap ∧ cap ≤ 9223372036854775807 ∧ D b ∧ b < w.heap.size ∧ TokOk t ∧
    w.cell? ⟨b, off, none⟩ = some (.int .u8 (t.kind : Int)) ∧ w.cell? ⟨b, off + 1, none⟩ = some (.string (bs t.text)) ∧ w.cell? ⟨b, off + 2, none⟩ = some (.int .i64 t.num) ∧ w.cell? ⟨b, off + 3, none⟩ = some (.int .i64 t.off) ∧
    ∀ q, (0 < ts.length → q = some ⟨b, off + 4, none⟩) → (q = none → cap - 1 = 0) → SlT D w (.slice q ts.length (cap - 1)) ts := by
  obtain ⟨h0, h⟩ := h
  obtain ⟨b, off, cap, e, h2, h3, hD, hlt, hc⟩ := h.at_ (by simp)
  have z : ∀ j, j < 4 → w.cell? ⟨b, off + 0 * 4 + j, none⟩ = some (tokC t j) := fun j hj => hc 0 (by simp) j hj
  have z0 := z 0 (by omega)
  have z1 := z 1 (by omega)
  have z2 := z 2 (by omega)
  have z3 := z 3 (by omega)
  rw [Nat.zero_mul, Nat.add_zero] at z0 z1 z2 z3
  refine ⟨b, off, cap, e, h2, h3, hD, hlt, h0 t (by simp), z0, z1, z2, z3, fun q hq hn => ⟨fun t ht => h0 t (by simp [ht]), q, cap - 1, rfl, ?_, by omega, hn, fun hl => ?_⟩⟩
  · simp only [List.length_cons] at h2; omega
  · refine ⟨b, off + 4, hq hl, hD, hlt, fun i hi j hj => ?_⟩
    have := hc (i + 1) (by simpa using hi) j hj
    rw [show off + 4 + i * 4 + j = off + (i + 1) * 4 + j by omega]
    exact this
end
/-- Names. -/
def SlN (D : Nat → Prop) (w : World) (v : Value) (l : List (List UInt8)) : Prop := (∀ n ∈ l, n.length ≤ 9223372036854775807) ∧ SlH D w v l.length 1 (fun i _ => .string (bs (l.getD i [])))
section
variable {D D' S : Nat → Prop} {w W : World} {v : Value} {l : List (List UInt8)}
theorem SlN.fx (h : SlN D w v l) (hf : Fx S w W) (hd : ∀ b, D b → b < w.heap.size → ¬ S b) : SlN D W v l := ⟨h.1, h.2.fx hf hd⟩
theorem SlN.mono (h : SlN D w v l) (hd : ∀ b, D b → b < w.heap.size → D' b) : SlN D' w v l := ⟨h.1, h.2.mono hd⟩
theorem SlN.nil (D : Nat → Prop) (w : World) : SlN D w (.slice none 0 0) [] := ⟨by simp, SlH.nil D w 1 _⟩
end
/-- Clauses. -/
def cl0 : Cl := .mk 0 [] 0 0 0 0 [] 0
def clV (c : Cl) (vn vi : Value) : List Value := [.int .u8 (c.kind : Int), vn, .int .u8 (c.dom : Int), .int .i64 c.idx, .int .i64 c.a, .int .i64 c.b, vi, .int .i64 c.off]
def nums (c : Cl) : Prop := c.kind < 256 ∧ c.dom < 256 ∧ In64 c.idx ∧ In64 c.a ∧ In64 c.b ∧ In64 c.off
def uu : Value × Value := (undef, undef)
def clF (us : List (Value × Value)) (l : List Cl) (i j : Nat) : Value := (clV (l.getD i cl0) (us.getD i uu).1 (us.getD i uu).2).getD j undef
mutual
/-- What a clause bears: its names' and its items' slices are vn, vi. -/
def HasC (D : Nat → Prop) (w : World) (vn vi : Value) : Cl → Prop
  | .mk k n d i a b l o => nums (.mk k n d i a b l o) ∧ SlN D w vn n ∧ ∃ us : List (Value × Value), SlH D w vi l.length 8 (clF us l) ∧ HasL D w us l
def HasL (D : Nat → Prop) (w : World) : List (Value × Value) → List Cl → Prop
  | [], [] => True
  | u :: us, c :: l => HasC D w u.1 u.2 c ∧ HasL D w us l
  | _, _ => False
end
def SlC (D : Nat → Prop) (w : World) (v : Value) (l : List Cl) : Prop := ∃ us : List (Value × Value), SlH D w v l.length 8 (clF us l) ∧ HasL D w us l
def IsC (D : Nat → Prop) (w : World) (v : Value) (c : Cl) : Prop := ∃ vn vi, v = .agg (clV c vn vi).toArray ∧ HasC D w vn vi c
theorem hasC_iff {D : Nat → Prop} {w : World} {vn vi : Value} {c : Cl} : HasC D w vn vi c ↔ nums c ∧ SlN D w vn c.names ∧ SlC D w vi c.items := by
  cases c
  rw [HasC]
  rfl
section
variable {D D' S : Nat → Prop} {w W : World}
mutual
theorem HasC.fx (hf : Fx S w W) (hd : ∀ b, D b → b < w.heap.size → ¬ S b) : ∀ (c : Cl) {vn vi : Value}, HasC D w vn vi c → HasC D W vn vi c
  | .mk k n d i a b l o, vn, vi, h => by
    rw [HasC] at h ⊢
    obtain ⟨h1, h2, us, h3, h4⟩ := h
    exact ⟨h1, h2.fx hf hd, us, h3.fx hf hd, HasL.fx hf hd l h4⟩
theorem HasL.fx (hf : Fx S w W) (hd : ∀ b, D b → b < w.heap.size → ¬ S b) : ∀ (l : List Cl) {us : List (Value × Value)}, HasL D w us l → HasL D W us l
  | [], [], _ => by rw [HasL]; trivial
  | [], _ :: _, h => by rw [HasL] at h; exact h.elim; all_goals simp
  | _ :: _, [], h => by rw [HasL] at h; exact h.elim; all_goals simp
  | c :: l, u :: us, h => by
    rw [HasL] at h ⊢
    exact ⟨HasC.fx hf hd c h.1, HasL.fx hf hd l h.2⟩
end
mutual
theorem HasC.mono (hd : ∀ b, D b → b < w.heap.size → D' b) : ∀ (c : Cl) {vn vi : Value}, HasC D w vn vi c → HasC D' w vn vi c
  | .mk k n d i a b l o, vn, vi, h => by
    rw [HasC] at h ⊢
    obtain ⟨h1, h2, us, h3, h4⟩ := h
    exact ⟨h1, h2.mono hd, us, h3.mono hd, HasL.mono hd l h4⟩
theorem HasL.mono (hd : ∀ b, D b → b < w.heap.size → D' b) : ∀ (l : List Cl) {us : List (Value × Value)}, HasL D w us l → HasL D' w us l
  | [], [], _ => by rw [HasL]; trivial
  | [], _ :: _, h => by rw [HasL] at h; exact h.elim; all_goals simp
  | _ :: _, [], h => by rw [HasL] at h; exact h.elim; all_goals simp
  | c :: l, u :: us, h => by
    rw [HasL] at h ⊢
    exact ⟨HasC.mono hd c h.1, HasL.mono hd l h.2⟩
end
variable {v : Value} {l : List Cl} {c : Cl}
theorem SlC.fx (h : SlC D w v l) (hf : Fx S w W) (hd : ∀ b, D b → b < w.heap.size → ¬ S b) : SlC D W v l := by
  obtain ⟨us, h1, h2⟩ := h
  exact ⟨us, h1.fx hf hd, HasL.fx hf hd l h2⟩
theorem SlC.mono (h : SlC D w v l) (hd : ∀ b, D b → b < w.heap.size → D' b) : SlC D' w v l := by
  obtain ⟨us, h1, h2⟩ := h
  exact ⟨us, h1.mono hd, HasL.mono hd l h2⟩
theorem SlC.after (h : SlC D w v l) (hb : Below w.heap.size w W) : SlC D W v l := h.fx (S := fun _ => False) (Fx.of_below hb) (fun _ _ _ e => e)
theorem SlC.nil (D : Nat → Prop) (w : World) : SlC D w (.slice none 0 0) [] := ⟨[], SlH.nil D w 8 _, by rw [HasL]; trivial⟩
theorem SlC.shape (h : SlC D w v l) : ∃ a cap, v = .slice a l.length cap ∧ l.length ≤ cap ∧ cap ≤ 9223372036854775807 ∧ (a = none → cap = 0) := by
  obtain ⟨us, h1, _⟩ := h
  exact h1.shape
theorem IsC.fx (h : IsC D w v c) (hf : Fx S w W) (hd : ∀ b, D b → b < w.heap.size → ¬ S b) : IsC D W v c := by
  obtain ⟨vn, vi, e, h⟩ := h
  exact ⟨vn, vi, e, HasC.fx hf hd c h⟩
theorem IsC.mono (h : IsC D w v c) (hd : ∀ b, D b → b < w.heap.size → D' b) : IsC D' w v c := by
  obtain ⟨vn, vi, e, h⟩ := h
  exact ⟨vn, vi, e, HasC.mono hd c h⟩
theorem IsC.after (h : IsC D w v c) (hb : Below w.heap.size w W) : IsC D W v c := h.fx (S := fun _ => False) (Fx.of_below hb) (fun _ _ _ e => e)
theorem HasL.len : ∀ {l : List Cl} {us : List (Value × Value)}, HasL D w us l → us.length = l.length
  | [], [], _ => rfl
  | [], _ :: _, h => by rw [HasL] at h; exact h.elim; all_goals simp
  | _ :: _, [], h => by rw [HasL] at h; exact h.elim; all_goals simp
  | c :: l, u :: us, h => by
    rw [HasL] at h
    simp [HasL.len h.2]
theorem HasL.at_ : ∀ {l : List Cl} {us : List (Value × Value)}, HasL D w us l → ∀ i, i < l.length → HasC D w (us.getD i uu).1 (us.getD i uu).2 (l.getD i cl0)
  | [], _, _, i, hi => by simp at hi
  | _ :: _, [], h, _, _ => by rw [HasL] at h; exact h.elim; all_goals simp
  | c :: l, u :: us, h, i, hi => by
    rw [HasL] at h
    cases i with
    | zero => exact h.1
    | succ i => exact HasL.at_ h.2 i (by simpa using hi)
theorem HasL.snoc : ∀ {l : List Cl} {us : List (Value × Value)}, HasL D w us l → ∀ {c : Cl} {u : Value × Value}, HasC D w u.1 u.2 c → HasL D w (us ++ [u]) (l ++ [c])
  | [], [], _, c, u, h => by
    rw [List.nil_append, List.nil_append, HasL]
    exact ⟨h, by rw [HasL]; trivial⟩
  | [], _ :: _, h, _, _, _ => by rw [HasL] at h; exact h.elim; all_goals simp
  | _ :: _, [], h, _, _, _ => by rw [HasL] at h; exact h.elim; all_goals simp
  | d :: l, x :: us, h, c, u, k => by
    rw [HasL] at h
    rw [List.cons_append, List.cons_append, HasL]
    exact ⟨h.1, HasL.snoc h.2 k⟩
/-- A clause of a slice, cell by cell. -/
theorem SlC.at_ (h : SlC D w v l) (h0 : 0 < l.length) : ∃ b off cap, v = .slice (some ⟨b, off, none⟩) l.length cap ∧ l.length ≤ cap ∧ cap ≤ 9223372036854775807 ∧ D b ∧ b < w.heap.size ∧ ∀ i, i < l.length → ∃ vn vi, HasC D w vn vi (l.getD i cl0) ∧
    w.cell? ⟨b, off + i * 8, none⟩ = some (.int .u8 ((l.getD i cl0).kind : Int)) ∧ w.cell? ⟨b, off + i * 8 + 1, none⟩ = some vn ∧ w.cell? ⟨b, off + i * 8 + 2, none⟩ = some (.int .u8 ((l.getD i cl0).dom : Int)) ∧ w.cell? ⟨b, off + i * 8 + 3, none⟩ = some (.int .i64 (l.getD i cl0).idx) ∧
    w.cell? ⟨b, off + i * 8 + 4, none⟩ = some (.int .i64 (l.getD i cl0).a) ∧ w.cell? ⟨b, off + i * 8 + 5, none⟩ = some (.int .i64 (l.getD i cl0).b) ∧ w.cell? ⟨b, off + i * 8 + 6, none⟩ = some vi ∧ w.cell? ⟨b, off + i * 8 + 7, none⟩ = some (.int .i64 (l.getD i cl0).off) := by
  obtain ⟨us, h1, h2⟩ := h
  obtain ⟨b, off, cap, e, e1, e2, hD, hlt, hc⟩ := h1.at_ h0
  refine ⟨b, off, cap, e, e1, e2, hD, hlt, fun i hi => ⟨_, _, h2.at_ i hi, ?_⟩⟩
  have z := hc i hi
  exact ⟨z 0 (by omega), z 1 (by omega), z 2 (by omega), z 3 (by omega), z 4 (by omega), z 5 (by omega), z 6 (by omega), z 7 (by omega)⟩
end
/-- A row of the call's own, of elements of k cells each. -/
def OwnC (w : World) (base : Nat) (e : TypeId) (k : Nat) (v : Value) (rows : List (List Value)) : Prop := (∀ r ∈ rows, r.length = k) ∧ w.ownsRow base e k v rows.length rows.flatten
theorem flat_at {k : Nat} : ∀ {rows : List (List Value)}, (∀ r ∈ rows, r.length = k) → ∀ i, i < rows.length → ∀ j, j < k → rows.flatten[i * k + j]? = (rows.getD i [])[j]?
  | [], _, i, hi, _, _ => by simp at hi
  | r :: rows, h, 0, _, j, hj => by
    have hr := h r (by simp)
    rw [List.flatten_cons, List.getElem?_append_left (by omega)]
    simp
  | r :: rows, h, i + 1, hi, j, hj => by
    have hr := h r (by simp)
    rw [List.flatten_cons, List.getElem?_append_right (by rw [hr, Nat.add_mul]; omega)]
    have : (i + 1) * k + j - r.length = i * k + j := by rw [hr, Nat.add_mul]; omega
    rw [this, flat_at (fun r hr => h r (by simp [hr])) i (by simpa using hi) j hj]
    simp
section
variable {w W : World} {base : Nat} {e : TypeId} {k : Nat} {v : Value} {rows : List (List Value)} {S : Nat → Prop}
theorem OwnC.nil (w : World) (base : Nat) (e : TypeId) (k : Nat) : OwnC w base e k (.slice none 0 0) [] := ⟨by simp, World.ownsRow_nil _ _ _ _⟩
/-- The block of a row of the call's own. -/
def ofRow (base : Nat) (v : Value) (b : Nat) : Prop := base ≤ b ∧ some b = v.ownBlock
theorem OwnC.slh (h : OwnC w base e k v rows) : SlH (ofRow base v) w v rows.length k (fun i j => (rows.getD i []).getD j undef) := by
  obtain ⟨h0, h1, h2⟩ := h
  rcases h2 with ⟨rfl, e'⟩ | ⟨g, cap, cur, rfl, hge, hg, h3, h4, h5, h6⟩
  · rw [e']; exact SlH.nil _ w k _
  · refine ⟨some ⟨g, 0, none⟩, cap, rfl, h3, by simpa [maxLen] using h4, (fun h => by cases h), fun _ => ⟨g, 0, rfl, ⟨hge, rfl⟩, (Array.getElem?_eq_some_iff.1 hg).1, fun i hi j hj => ?_⟩⟩
    have hc := cell_of_row w g (0 + i * k + j) cur _ (0, 0) hg
    have hlt : i * k + j < rows.length * k := by
      have : (i + 1) * k ≤ rows.length * k := Nat.mul_le_mul_right k hi
      rw [Nat.add_mul] at this; omega
    rw [hc, ← Array.getElem?_toList, Nat.zero_add]
    have h7 : (cur.toList.take (rows.length * k))[i * k + j]? = rows.flatten[i * k + j]? := by rw [h6]
    rw [List.getElem?_take, if_pos hlt, flat_at h0 i hi j hj] at h7
    rw [h7]
    have hr : (rows.getD i []).length = k := by
      rw [List.getD_eq_getElem?_getD, List.getElem?_eq_getElem hi]; exact h0 _ (List.getElem_mem hi)
    dsimp only
    rw [List.getElem?_eq_getElem (by omega), List.getD_eq_getElem?_getD (l := rows.getD i []), List.getElem?_eq_getElem (by omega)]
    rfl
theorem OwnC.fx (h : OwnC w base e k v rows) (hf : Fx S w W) (hS : ∀ b, S b → ¬ ofRow base v b) : OwnC W base e k v rows := by
  obtain ⟨h0, h1, h2⟩ := h
  refine ⟨h0, h1, ?_⟩
  rcases h2 with h2 | ⟨g, cap, cur, rfl, hge, hg, h3⟩
  · exact .inl h2
  · exact .inr ⟨g, cap, cur, rfl, hge, (hf.block g (Array.getElem?_eq_some_iff.1 hg).1 (fun e => hS g e ⟨hge, rfl⟩)).trans hg, h3⟩
theorem OwnC.after (h : OwnC w base e k v rows) (hb : Below w.heap.size w W) : OwnC W base e k v rows := h.fx (S := fun _ => False) (Fx.of_below hb) (fun _ e => e.elim)
theorem OwnC.shape (h : OwnC w base e k v rows) : ∃ p c, v = .slice p rows.length c ∧ rows.length ≤ c ∧ c ≤ 9223372036854775807 ∧ (p = none → c = 0) := h.slh.shape
theorem OwnC.lt (h : OwnC w base e k v rows) : ∀ b, some b = v.ownBlock → base ≤ b ∧ b < w.heap.size := by
  intro b hb
  rcases h.2.2 with ⟨rfl, _⟩ | ⟨g, cap, cur, rfl, hge, hg, _⟩
  · simp [Value.ownBlock] at hb
  · simp [Value.ownBlock] at hb
    subst hb
    exact ⟨hge, (Array.getElem?_eq_some_iff.1 hg).1⟩
end
theorem cells_new {w : World} {t : TypeId} {row : List Value} : ∀ j u, row[j]? = some u → (w.alloc (.cells row.toArray t)).cell? ((⟨w.heap.size, 0, none⟩ : Addr).add j) = some u := by
  intro j u hj
  rw [add_off, (Box.new w row.toArray t).cell]
  simpa using hj
/-- append(s, x) of a row of the call's own and one element, laid in a block of its own. -/
theorem run_appC (w : World) (base : Nat) (t ty e : TypeId) (k bytes : Nat) (z : Value) (ht : Tryz.prog.underlying t = some (.slice e)) (hi : (Tryz.prog.info? e).map (fun i => (i.zero, i.size, i.bytes)) = some (some z, k, bytes)) (hzs : z.cells.size = k) (hk : 0 < k) (hby : bytes ≤ 1000)
    (v : Value) (rows : List (List Value)) (row : List Value) (hown : OwnC w base e k v rows) (hrow : row.length = k) (h1 : ∀ u ∈ row, u.oneCell' = true) (ad : Addr) (c : Nat) (hnews : ∀ j u, row[j]? = some u → w.cell? (ad.add j) = some u) (hl : rows.length ≤ 1000000) (hbase : base ≤ w.heap.size) :
    ∃ v' w', (Builtin.append_ #[t, t] ty #[v, .slice (some ad) 1 c]).run Tryz.prog w = .ok v' w' ∧ OwnC w' base e k v' (rows ++ [row]) ∧ Fx (fun b => some b = v.ownBlock) w w' ∧ (v'.ownBlock = v.ownBlock ∨ v'.ownBlock = some w.heap.size) := by
  obtain ⟨i0, hi', hz0, hz1, hz2⟩ := info_parts hi
  obtain ⟨v', w', hr, q1, q2, q3, q4⟩ := run_append_own_at (P := Tryz.prog) w base t ty e i0 z k bytes ht hi' hz0 hz1 hz2 hzs hk v rows.length _ hown.2 ad 1 c row (by omega) hnews h1 (by have : maxLen = 9223372036854775807 := rfl; omega) (by
    have : (rows.length + 1) * bytes ≤ 1000001 * 1000 := Nat.mul_le_mul (by omega) hby
    omega) hbase
  refine ⟨v', w', hr, ⟨fun r hr => ?_, ?_⟩, Fx.grown q2, q4⟩
  · rcases List.mem_append.1 hr with h | h
    · exact hown.1 r h
    · rw [List.mem_singleton.1 h]; exact hrow
  · rw [List.length_append, List.flatten_append]
    simpa using q1
theorem ownsRow_put {w : World} {base n size i g : Nat} {t : TypeId} {v u : Value} {xs : List Value} (h : w.ownsRow base t size v n xs) (hg : v.ownBlock = some g) : (w.setCell ⟨g, i, none⟩ u).ownsRow base t size v n (xs.set i u) := by
  obtain ⟨h1, h2⟩ := h
  refine ⟨by rw [List.length_set, h1], ?_⟩
  rcases h2 with ⟨rfl, _⟩ | ⟨g', cap, cur, rfl, hge, hb, h3, h4, h5, h6⟩
  · cases hg
  · obtain rfl : g' = g := by simpa [Value.ownBlock] using hg
    refine .inr ⟨g', cap, cur.setIfInBounds i u, rfl, hge, ?_, h3, h4, by simpa using h5, ?_⟩
    · have : Box w g' cur t := hb
      exact this.set i u
    · rw [Array.toList_setIfInBounds, List.take_set, h6]
theorem set_last {xs : List Value} {m : Nat} (hm : xs.length = m) (z : List Value) (j : Nat) (u : Value) : (xs ++ z).set (m + j) u = xs ++ z.set j u := by
  subst hm
  rw [List.set_append_right _ _ (by omega)]
  congr 2
  omega
/-- The last element of a row is written over. -/
theorem OwnC.put8 {w : World} {base g : Nat} {e : TypeId} {v : Value} {rows : List (List Value)} {z0 z1 z2 z3 z4 z5 z6 z7 a0 a1 a2 a3 a4 a5 a6 a7 : Value} (h : OwnC w base e 8 v (rows ++ [[z0, z1, z2, z3, z4, z5, z6, z7]])) (hg : v.ownBlock = some g) :
    OwnC ((((((((w.setCell ⟨g, rows.length * 8, none⟩ a0).setCell ⟨g, rows.length * 8 + 1, none⟩ a1).setCell ⟨g, rows.length * 8 + 2, none⟩ a2).setCell ⟨g, rows.length * 8 + 3, none⟩ a3).setCell ⟨g, rows.length * 8 + 4, none⟩ a4).setCell ⟨g, rows.length * 8 + 5, none⟩ a5).setCell ⟨g, rows.length * 8 + 6, none⟩ a6).setCell ⟨g, rows.length * 8 + 7, none⟩ a7) base e 8 v (rows ++ [[a0, a1, a2, a3, a4, a5, a6, a7]]) := by
  obtain ⟨h0, h1⟩ := h
  have hr : ∀ r ∈ rows, r.length = 8 := fun r hr => h0 r (by simp [hr])
  refine ⟨fun r hr' => ?_, ?_⟩
  · rcases List.mem_append.1 hr' with h | h
    · exact hr r h
    · rw [List.mem_singleton.1 h]; rfl
  · have hl : rows.flatten.length = rows.length * 8 := by
      have := h1.1
      rw [List.flatten_append, List.length_append, List.length_append] at this
      simp at this
      rw [List.length_flatten]
      omega
    have k := (((((((ownsRow_put (i := rows.length * 8) (u := a0) h1 hg))))))) 
    have k := ownsRow_put (i := rows.length * 8 + 1) (u := a1) k hg
    have k := ownsRow_put (i := rows.length * 8 + 2) (u := a2) k hg
    have k := ownsRow_put (i := rows.length * 8 + 3) (u := a3) k hg
    have k := ownsRow_put (i := rows.length * 8 + 4) (u := a4) k hg
    have k := ownsRow_put (i := rows.length * 8 + 5) (u := a5) k hg
    have k := ownsRow_put (i := rows.length * 8 + 6) (u := a6) k hg
    have k := ownsRow_put (i := rows.length * 8 + 7) (u := a7) k hg
    rw [List.flatten_append, List.flatten_singleton] at k ⊢
    have e0 := set_last hl [z0, z1, z2, z3, z4, z5, z6, z7] 0 a0
    rw [Nat.add_zero] at e0
    rw [e0, set_last hl, set_last hl, set_last hl, set_last hl, set_last hl, set_last hl, set_last hl] at k
    rw [List.length_append, List.length_singleton] at k ⊢
    exact k
theorem fx_set8 (w : World) (g o : Nat) (a0 a1 a2 a3 a4 a5 a6 a7 : Value) : Fx (fun b => b = g) w ((((((((w.setCell ⟨g, o, none⟩ a0).setCell ⟨g, o + 1, none⟩ a1).setCell ⟨g, o + 2, none⟩ a2).setCell ⟨g, o + 3, none⟩ a3).setCell ⟨g, o + 4, none⟩ a4).setCell ⟨g, o + 5, none⟩ a5).setCell ⟨g, o + 6, none⟩ a6).setCell ⟨g, o + 7, none⟩ a7) :=
  (((((((Fx.set w g o a0).trans (Fx.set _ g (o + 1) a1)).trans (Fx.set _ g (o + 2) a2)).trans (Fx.set _ g (o + 3) a3)).trans (Fx.set _ g (o + 4) a4)).trans (Fx.set _ g (o + 5) a5)).trans (Fx.set _ g (o + 6) a6)).trans (Fx.set _ g (o + 7) a7)
theorem end8 {w : World} {b : Nat} {x0 x1 x2 x3 x4 x5 x6 x7 : Value} {t : TypeId} (h : Box w b #[x0, x1, x2, x3, x4, x5, x6, x7] t) (y0 y1 y2 y3 y4 y5 y6 y7 : Value) :
    Box ((((((((w.setCell ⟨b, 0, none⟩ y0).setCell ⟨b, 1, none⟩ y1).setCell ⟨b, 2, none⟩ y2).setCell ⟨b, 3, none⟩ y3).setCell ⟨b, 4, none⟩ y4).setCell ⟨b, 5, none⟩ y5).setCell ⟨b, 6, none⟩ y6).setCell ⟨b, 7, none⟩ y7) b #[y0, y1, y2, y3, y4, y5, y6, y7] t := by
  have := (((((((h.set 0 y0).set 1 y1).set 2 y2).set 3 y3).set 4 y4).set 5 y5).set 6 y6).set 7 y7
  simpa using this
theorem Box.cells8 {w : World} {b : Nat} {x0 x1 x2 x3 x4 x5 x6 x7 : Value} {t : TypeId} (h : Box w b #[x0, x1, x2, x3, x4, x5, x6, x7] t) : w.cell? ⟨b, 0, none⟩ = some x0 ∧ w.cell? ⟨b, 1, none⟩ = some x1 ∧ w.cell? ⟨b, 2, none⟩ = some x2 ∧ w.cell? ⟨b, 3, none⟩ = some x3 ∧
    w.cell? ⟨b, 4, none⟩ = some x4 ∧ w.cell? ⟨b, 5, none⟩ = some x5 ∧ w.cell? ⟨b, 6, none⟩ = some x6 ∧ w.cell? ⟨b, 7, none⟩ = some x7 :=
  ⟨h.cell 0, h.cell 1, h.cell 2, h.cell 3, h.cell 4, h.cell 5, h.cell 6, h.cell 7⟩
/-- A row of clauses of the call's own; what they bear lies in D. -/
def rowsOf (us : List (Value × Value)) (l : List Cl) : List (List Value) := (us.zip l).map fun p => clV p.2 p.1.1 p.1.2
def OwnCl (D : Nat → Prop) (w : World) (base : Nat) (v : Value) (l : List Cl) : Prop := ∃ us : List (Value × Value), OwnC w base 43 8 v (rowsOf us l) ∧ HasL D w us l
theorem rowsOf_len {us : List (Value × Value)} {l : List Cl} (h : us.length = l.length) : (rowsOf us l).length = l.length := by unfold rowsOf; rw [List.length_map, List.length_zip, h]; omega
theorem rowsOf_snoc {us : List (Value × Value)} {l : List Cl} (h : us.length = l.length) (u : Value × Value) (c : Cl) : rowsOf (us ++ [u]) (l ++ [c]) = rowsOf us l ++ [clV c u.1 u.2] := by
  unfold rowsOf
  rw [List.zip_append h, List.map_append]
  rfl
theorem rowsOf_get {us : List (Value × Value)} {l : List Cl} (h : us.length = l.length) {i : Nat} (hi : i < l.length) : (rowsOf us l).getD i [] = clV (l.getD i cl0) (us.getD i uu).1 (us.getD i uu).2 := by
  have h1 : i < us.length := by omega
  have h2 : i < (rowsOf us l).length := by rw [rowsOf_len h]; exact hi
  rw [List.getD_eq_getElem?_getD, List.getElem?_eq_getElem h2, List.getD_eq_getElem?_getD, List.getElem?_eq_getElem hi, List.getD_eq_getElem?_getD, List.getElem?_eq_getElem h1]
  simp [rowsOf]
section
variable {D : Nat → Prop} {w W : World} {base : Nat} {v : Value} {l : List Cl}
theorem OwnCl.nil (D : Nat → Prop) (w : World) (base : Nat) : OwnCl D w base (.slice none 0 0) [] := ⟨[], OwnC.nil w base _ 8, by rw [HasL]; trivial⟩
theorem OwnCl.slC (h : OwnCl D w base v l) : SlC (fun b => ofRow base v b ∨ D b) w v l := by
  obtain ⟨us, h1, h2⟩ := h
  have hu := h2.len
  refine ⟨us, ?_, HasL.mono (fun b hb _ => .inr hb) l h2⟩
  have hs := h1.slh
  rw [rowsOf_len hu] at hs
  obtain ⟨a, cap, e1, e2, e3, e4, e5⟩ := hs
  refine ⟨a, cap, e1, e2, e3, e4, fun hn => ?_⟩
  obtain ⟨b, off, f1, f2, f3, f4⟩ := e5 hn
  refine ⟨b, off, f1, .inl f2, f3, fun i hi j hj => ?_⟩
  rw [f4 i hi j hj]
  dsimp only
  rw [rowsOf_get hu hi]
  rfl
theorem OwnCl.fx {S : Nat → Prop} (h : OwnCl D w base v l) (hf : Fx S w W) (hS : ∀ b, S b → ¬ ofRow base v b) (hd : ∀ b, D b → b < w.heap.size → ¬ S b) : OwnCl D W base v l := by
  obtain ⟨us, h1, h2⟩ := h
  exact ⟨us, h1.fx hf hS, HasL.fx hf hd l h2⟩
theorem OwnCl.mono {D' : Nat → Prop} (h : OwnCl D w base v l) (hd : ∀ b, D b → b < w.heap.size → D' b) : OwnCl D' w base v l := by
  obtain ⟨us, h1, h2⟩ := h
  exact ⟨us, h1, HasL.mono hd l h2⟩
theorem OwnCl.shape (h : OwnCl D w base v l) : ∃ p c, v = .slice p l.length c ∧ l.length ≤ c ∧ c ≤ 9223372036854775807 ∧ (p = none → c = 0) := by
  obtain ⟨us, h1, h2⟩ := h
  have := h1.shape
  rw [rowsOf_len h2.len] at this
  exact this
end
theorem infoC : (Tryz.prog.info? 43).map (fun i => (i.zero, i.size, i.bytes)) = some (some (.agg #[.int .u8 0, .slice none 0 0, .int .u8 0, .int .i64 0, .int .i64 0, .int .i64 0, .slice none 0 0, .int .i64 0]), 8, 96) := by kernel_rfl
theorem infoS : (Tryz.prog.info? 9).map (fun i => (i.zero, i.size, i.bytes)) = some (some (.string ⟨#[]⟩), 1, 16) := by kernel_rfl
/-- A row of names of the call's own. -/
def OwnN (w : World) (base : Nat) (v : Value) (l : List (List UInt8)) : Prop := (∀ n ∈ l, n.length ≤ 9223372036854775807) ∧ OwnC w base 9 1 v (l.map fun n => [Value.string (bs n)])
section
variable {w W : World} {base : Nat} {v : Value} {l : List (List UInt8)}
theorem OwnN.slN (h : OwnN w base v l) : SlN (ofRow base v) w v l := by
  obtain ⟨h0, h1⟩ := h
  refine ⟨h0, ?_⟩
  have hs := h1.slh
  rw [List.length_map] at hs
  obtain ⟨a, cap, e1, e2, e3, e4, e5⟩ := hs
  refine ⟨a, cap, e1, e2, e3, e4, fun hn => ?_⟩
  obtain ⟨b, off, f1, f2, f3, f4⟩ := e5 hn
  refine ⟨b, off, f1, f2, f3, fun i hi j hj => ?_⟩
  obtain rfl : j = 0 := by omega
  rw [f4 i hi 0 (by omega)]
  dsimp only
  rw [List.getD_eq_getElem?_getD (l := l.map _), List.getElem?_map, List.getElem?_eq_getElem hi, List.getD_eq_getElem?_getD (l := l), List.getElem?_eq_getElem hi]
  rfl
theorem OwnN.fx {S : Nat → Prop} (h : OwnN w base v l) (hf : Fx S w W) (hS : ∀ b, S b → ¬ ofRow base v b) : OwnN W base v l := ⟨h.1, h.2.fx hf hS⟩
theorem OwnN.shape (h : OwnN w base v l) : ∃ p c, v = .slice p l.length c ∧ l.length ≤ c ∧ c ≤ 9223372036854775807 ∧ (p = none → c = 0) := by
  have := h.2.shape
  rw [List.length_map] at this
  exact this
theorem OwnN.one (w : World) (base : Nat) (n : List UInt8) (hn : n.length ≤ 9223372036854775807) (hb : base ≤ w.heap.size) : OwnN (w.alloc (.cells #[.string (bs n)] 9)) base (.slice (some ⟨w.heap.size, 0, none⟩) 1 1) [n] :=
  ⟨by simpa using hn, by simp, rfl, .inr ⟨w.heap.size, 1, #[.string (bs n)], rfl, hb, heap_alloc_new w _, Nat.le_refl _, by simp [maxLen], rfl, rfl⟩⟩
end
/-- The parser at block p: the tokens that are left, and the text's end. -/
def PS (w : World) (p : Nat) (ts : List Tok) (en : Int) : Prop := ∃ v, Box w p #[v, .int .i64 en] 47 ∧ SlT (fun b => b < p) w v ts
theorem PS.fx {S : Nat → Prop} {w W : World} {p : Nat} {ts : List Tok} {en : Int} (h : PS w p ts en) (hf : Fx S w W) (hS : ∀ b, S b → p < b) : PS W p ts en := by
  obtain ⟨v, h1, h2⟩ := h
  exact ⟨v, h1.fx hf (fun e => Nat.lt_irrefl _ (hS p e)), h2.fx hf (fun b hb _ e => by have := hS b e; omega)⟩
theorem PS.after {w W : World} {p : Nat} {ts : List Tok} {en : Int} (h : PS w p ts en) (hb : Below w.heap.size w W) : PS W p ts en := by
  obtain ⟨v, h1, h2⟩ := h
  exact ⟨v, h1.after hb, h2.fx (S := fun _ => False) (Fx.of_below hb) (fun _ _ _ e => e)⟩
theorem PS.lt {w : World} {p : Nat} {ts : List Tok} {en : Int} (h : PS w p ts en) : p < w.heap.size := by obtain ⟨v, h1, _⟩ := h; exact h1.lt
end Go.Proofs.YtganlldidjbpiaaGreatDoor

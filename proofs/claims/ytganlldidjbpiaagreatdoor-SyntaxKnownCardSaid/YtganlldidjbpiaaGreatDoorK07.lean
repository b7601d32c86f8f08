/- Syntax: what the package's variables hold.
   Walks of package syntax: the classes of tokens.
   Walks of package syntax: the parser's steps.
   Walks of package syntax: names, numbers, signs and words. -/
import Derived.Lib.SmallJoins
import Derived.Test.YtganlldidjbpiaaGreatDoorK06
import Derived.Deep.LoopGhost
import Derived.Deep.QuietTactic
import Derived.BigQuiet
import Derived.BigRegion
import Derived.Deep.CutBlock
import Derived.Deep.DeepCutAuto
import Derived.Deep.RegionHeld3
import Derived.Deep.RegionLaw
import Derived.Deep.RegionWith
import Derived.Shelf.Abstract
set_option linter.unusedVariables false
namespace Go.Proofs.YtganlldidjbpiaaGreatDoor
open Go.RowKit

def scopesL : List (List UInt8) := [sHost, sRack, sRow, sFeed, sLoop]
/-- Variable g holds a slice of strings; all of it lies in blocks below N. -/
def StrsAt (N : Nat) (w : World) (g : Nat) (l : List (List UInt8)) : Prop := ∃ v, w.cell? ⟨g, 0, none⟩ = some v ∧ g < N ∧ SlN (fun b => b < N) w v l
def DomsAt (N : Nat) (w : World) (g : Nat) : Prop := ∃ v, w.cell? ⟨g, 0, none⟩ = some v ∧ g < N ∧ SlH (fun b => b < N) w v 5 1 (fun i _ => .int .u8 ((i + 1 : Nat) : Int))
def Wds (N : Nat) (w : World) : Prop := StrsAt N w 2 wordsL ∧ StrsAt N w 0 scopesL ∧ DomsAt N w 1
theorem Wds.fx {S : Nat → Prop} {N : Nat} {w W : World} (h : Wds N w) (hf : Fx S w W) (hS : ∀ b, S b → N ≤ b) : Wds N W := by
  obtain ⟨⟨v1, a1, b1, c1⟩, ⟨v2, a2, b2, c2⟩, v3, a3, b3, c3⟩ := h
  have hd : ∀ b, b < N → b < w.heap.size → ¬ S b := fun b hb _ e => by have := hS b e; omega
  have hg : ∀ g, g < N → ¬ S g := fun b hb e => by have := hS b e; omega
  exact ⟨⟨v1, hf.cell a1 (hg _ b1), b1, c1.fx hf hd⟩, ⟨v2, hf.cell a2 (hg _ b2), b2, c2.fx hf hd⟩, v3, hf.cell a3 (hg _ b3), b3, c3.fx hf hd⟩
theorem Wds.after {N : Nat} {w W : World} (h : Wds N w) (hb : Below w.heap.size w W) : Wds N W := h.fx (S := fun _ => False) (Fx.of_below hb) (fun _ e => e.elim)
theorem Wds.mono {N M : Nat} {w : World} (h : Wds N w) (hM : N ≤ M) : Wds M w := by
  obtain ⟨⟨v1, a1, b1, c1⟩, ⟨v2, a2, b2, c2⟩, v3, a3, b3, c3⟩ := h
  have hd : ∀ b, b < N → b < w.heap.size → b < M := fun b hb _ => Nat.lt_of_lt_of_le hb hM
  exact ⟨⟨v1, a1, Nat.lt_of_lt_of_le b1 hM, c1.mono hd⟩, ⟨v2, a2, Nat.lt_of_lt_of_le b2 hM, c2.mono hd⟩, v3, a3, Nat.lt_of_lt_of_le b3 hM, c3.mono hd⟩
/-- A function that answers yes or no and leaves memory as it was. -/
def RetB (w : World) (p : Bool) (e : Ending) (w' : World) : Prop := e = .returned (.bool p) ∧ Below w.heap.size w w'
theorem list_bs (x : List UInt8) : (bs x).toList = x := by rw [ByteArray.toList_eq]; rfl
theorem bs_eq_self (s : List UInt8) : ((bs s).toList == (bs s).toList) = true := by simp
theorem bs_eq_no {s x : List UInt8} (h : ¬ s = x) : ((bs s).toList == (bs x).toList) = false := by
  rw [list_bs, list_bs]
  simpa using h
/-- The index that slices.Index answers. -/
def idxZ {α : Type} [BEq α] (l : List α) (s : α) : Int := if l.idxOf s < l.length then (l.idxOf s : Int) else -1
theorem idxZ_at {α : Type} [BEq α] [LawfulBEq α] {l : List α} {s d : α} {i : Nat} (hi : i < l.length) (h0 : ∀ j, j < i → l.getD j d ≠ s) (h : l.getD i d = s) : idxZ l s = (i : Int) := by
  have e : l.idxOf s = i := by
    have hmem : s ∈ l := by
      rw [← h, List.getD_eq_getElem?_getD, List.getElem?_eq_getElem hi]; exact List.getElem_mem hi
    have h1 : l.idxOf s < l.length := List.idxOf_lt_length_iff.2 hmem
    have h2 : l[l.idxOf s] = s := List.getElem_idxOf h1
    have h3 : ¬ l.idxOf s < i := fun hlt => h0 _ hlt (by rw [List.getD_eq_getElem?_getD, List.getElem?_eq_getElem h1]; exact h2)
    have h4 : ¬ i < l.idxOf s := fun hlt => by
      have := List.not_of_lt_findIdx (p := (· == s)) (xs := l) (i := i) hlt
      rw [List.getD_eq_getElem?_getD, List.getElem?_eq_getElem hi] at h
      simp only [Option.getD_some] at h
      rw [h] at this
      simp at this
    omega
  unfold idxZ
  rw [e, if_pos hi]
theorem idxZ_none {α : Type} [BEq α] [LawfulBEq α] {l : List α} {s d : α} (h0 : ∀ j, j < l.length → l.getD j d ≠ s) : idxZ l s = -1 := by
  unfold idxZ
  rw [if_neg]
  intro h1
  have h2 : l[l.idxOf s] = s := List.getElem_idxOf h1
  exact h0 _ h1 (by rw [List.getD_eq_getElem?_getD, List.getElem?_eq_getElem h1]; exact h2)
theorem idxZ_mem {α : Type} [BEq α] [LawfulBEq α] (l : List α) (s : α) : decide (0 ≤ idxZ l s) = l.contains s := by
  unfold idxZ
  by_cases h : s ∈ l
  · rw [if_pos (List.idxOf_lt_length_iff.2 h), List.contains_iff_mem.2 h]
    simp
  · rw [if_neg (fun e => h (List.idxOf_lt_length_iff.1 e))]
    have : l.contains s = false := by rw [← Bool.not_eq_true, List.contains_iff_mem]; exact h
    rw [this]; rfl
set_option maxRecDepth 100000 in
set_option maxHeartbeats 2000000 in
theorem indexS_c (D : Nat → Prop) (w : World) (v : Value) (l : List (List UInt8)) (s : List UInt8) (h : SlN D w v l) :
    Calls Tryz.prog 127 #[v, .string (bs s)] w fun e w' => e = .returned (.int .i64 (idxZ l s)) ∧ Below w.heap.size w w' := by
  obtain ⟨p, c, rfl, h1, h2, _⟩ := h.2.shape
  have H := Lib.hid h.2
  clear h
  obtain ⟨z, hz⟩ : ∃ z, idxZ l s = z := ⟨_, rfl⟩
  rw [hz]
  have HZ := Lib.hid hz
  clear hz
  go_enter Tryz.func127, Tryz.ntmps127
  go_wp2_with fail
  go_loopg [8] l.length (fun g t wx => ∃ i : Nat, i ≤ l.length ∧ g = l.length - i ∧ t = .int .i64 (i : Int) ∧ Hid (∀ j, j < i → l.getD j [] ≠ s) ∧ Hid (Below w.heap.size w wx))
  case atStart => exact ⟨0, Nat.zero_le _, rfl, rfl, fun j hj => absurd hj (by omega), Below.refl _ _⟩
  case round =>
    obtain ⟨i, hi, rfl, rfl, heq, hbl⟩ := hrel
    by_cases hlt : i < l.length
    · obtain ⟨ba, oa, ca, ea, _, _, _, la, hca⟩ := (H.out.after hbl.out).at_ (by omega)
      injection ea with ea _ ec
      subst ea ec
      have x0 : wr.cell? ⟨ba, oa + i, none⟩ = some (.string (bs (l.getD i []))) := by have := hca i hlt 0 (by omega); simpa using this
      clear hca
      have il : (i : Int) < (l.length : Int) := by omega
      have i0 : (0 : Int) ≤ (i : Int) := by omega
      obtain ⟨x, hx⟩ : ∃ x, l.getD i [] = x := ⟨_, rfl⟩
      rw [hx] at x0
      have HX := Lib.hid hx
      clear hx
      by_cases he : s = x
      · subst he
        have q1 := bs_eq_self s
        go_wp2_with fail
        go_ret
        exact ⟨ret_int (by rw [← HZ.out, idxZ_at hlt heq.out HX.out]), hbl.out⟩
      · have q1 := bs_eq_no he
        have HE := Lib.hid he
        clear he
        go_wp2_with fail
        go_roundg (l.length - (i + 1))
        case measure => omega
        case rel =>
          refine ⟨i + 1, by omega, rfl, by go_num, fun j hj => ?_, hbl.out⟩
          rcases Nat.lt_or_ge j i with h | h
          · exact heq.out j h
          · obtain rfl : j = i := by omega
            rw [HX.out]; exact fun e => HE.out e.symm
    · obtain rfl : i = l.length := by omega
      go_wp2_with fail
      go_ret
      exact ⟨ret_int (by rw [← HZ.out, idxZ_none heq.out]), hbl.out⟩
set_option maxRecDepth 100000 in
set_option maxHeartbeats 2000000 in
theorem containsS_c (D : Nat → Prop) (w : World) (v : Value) (l : List (List UInt8)) (s : List UInt8) (h : SlN D w v l) :
    Calls Tryz.prog 117 #[v, .string (bs s)] w (RetB w (l.contains s)) := by
  go_enter Tryz.func117, Tryz.ntmps117
  go_wp2_with fail
  refine (indexS_c D _ _ _ s h).mono ?_
  rintro e w1 ⟨rfl, hb⟩
  have HB := Lib.hid hb
  clear hb
  go_wp2_with fail
  go_ret
  exact ⟨ret_bool (idxZ_mem l s), HB.out⟩
end Go.Proofs.YtganlldidjbpiaaGreatDoor

namespace Go.Proofs.YtganlldidjbpiaaGreatDoor
open Go.RowKit Go.Shelf

theorem beq_cast (k m : Nat) : ((k : Int) == (m : Int)) = (k == m) := by rw [Bool.eq_iff_iff]; simp; omega
/-- A class of tokens: a function value that answers cls, in each world that has grown from w. -/
def ClsAt (w : World) (cv : Value) (cls : Tok → Bool) : Prop := ∃ (f : Nat) (cap : Array Value), cv = .func (.func f) #[] cap ∧ (∀ args w, (callFunc f args).run Tryz.prog w = .ok (.enter f args) w) ∧
  ∀ (W : World) (t : Tok), Below w.heap.size w W → TokOk t → Calls Tryz.prog f (#[tokV t] ++ cap) W (RetB W (cls t))
theorem ClsAt.after {w w' : World} {cv : Value} {cls : Tok → Bool} (h : ClsAt w cv cls) (hb : Below w.heap.size w w') : ClsAt w' cv cls := by
  obtain ⟨f, cap, h1, h2, h3⟩ := h
  exact ⟨f, cap, h1, h2, fun W t hW => h3 W t (hb.trans (hW.mono hb.size))⟩
set_option maxRecDepth 100000 in
set_option maxHeartbeats 2000000 in
theorem numbered_c (w : World) (t : Tok) : Calls Tryz.prog 126 #[tokV t] w (RetB w (numberedT t)) := by
  obtain ⟨k, x, n, o⟩ := t
  unfold tokV
  go_enter Tryz.func126, Tryz.ntmps126
  go_wp2_with fail
  go_ret
  exact ⟨ret_bool (beq_cast k 2), held_alloc (Below.refl _ _)⟩
set_option maxRecDepth 100000 in
set_option maxHeartbeats 2000000 in
theorem scoped_c (N : Nat) (w : World) (t : Tok) (hN : N ≤ w.heap.size) (he : Wds N w) : Calls Tryz.prog 128 #[tokV t] w (RetB w (scopesL.contains t.text)) := by
  obtain ⟨k, x, n, o⟩ := t
  unfold tokV
  obtain ⟨W0, hW⟩ : ∃ W0, W0 = w.alloc (.cells #[.int .u8 (k : Int), .string (bs x), .int .i64 n, .int .i64 o] 37) := ⟨_, rfl⟩
  have HB : Hid (Below w.heap.size w W0) := hW ▸ held_alloc (Below.refl _ w)
  have bx : Box W0 w.heap.size #[.int .u8 (k : Int), .string (bs x), .int .i64 n, .int .i64 o] 37 := hW ▸ Box.new w _ _
  obtain ⟨c0, c1, c2, c3⟩ := bx.cells4
  obtain ⟨v, g0, _, H⟩ := (he.after HB.out).2.1
  have H := Lib.hid H
  clear he bx
  obtain ⟨B, hB⟩ : ∃ B, scopesL.contains x = B := ⟨_, rfl⟩
  have HE := Lib.hid hB
  show Calls _ _ _ _ (RetB w (scopesL.contains x))
  rw [hB]
  clear hB
  go_enter Tryz.func128, Tryz.ntmps128
  go_upto_region 1 with fail
  rw [← hW]
  clear hW
  go_wp2_with fail
  refine (containsS_c _ _ _ _ x H.out).mono ?_
  rw [HE.out]
  rintro e w1 ⟨rfl, hb⟩
  have HB1 := Lib.hid (HB.out.trans (hb.mono HB.out.size))
  clear hb c0 c1 c2 c3 g0
  go_wp2_with fail
  go_ret
  exact ⟨rfl, HB1.out⟩
set_option maxRecDepth 100000 in
set_option maxHeartbeats 2000000 in
theorem named_c (N : Nat) (w : World) (t : Tok) (hN : N ≤ w.heap.size) (he : Wds N w) : Calls Tryz.prog 94 #[tokV t] w (RetB w (namedT t)) := by
  obtain ⟨k, x, n, o⟩ := t
  unfold tokV
  obtain ⟨W0, hW⟩ : ∃ W0, W0 = w.alloc (.cells #[.int .u8 (k : Int), .string (bs x), .int .i64 n, .int .i64 o] 37) := ⟨_, rfl⟩
  have HB : Hid (Below w.heap.size w W0) := hW ▸ held_alloc (Below.refl _ w)
  have bx : Box W0 w.heap.size #[.int .u8 (k : Int), .string (bs x), .int .i64 n, .int .i64 o] 37 := hW ▸ Box.new w _ _
  obtain ⟨c0, c1, c2, c3⟩ := bx.cells4
  obtain ⟨v, g0, _, H⟩ := (he.after HB.out).1
  have H := Lib.hid H
  clear he bx
  obtain ⟨B, hB⟩ : ∃ B, namedT ⟨k, x, n, o⟩ = B := ⟨_, rfl⟩
  rw [hB]
  unfold namedT at hB
  simp only at hB
  by_cases hk : k = 1
  · have HE : Hid ((!isWord x) = B) := by
      rw [hk] at hB
      exact hB
    have q0 : ((k : Int) == 1) = true := by simp; omega
    clear hB hk
    obtain ⟨C, hC⟩ : ∃ C, wordsL.contains x = C := ⟨_, rfl⟩
    unfold isWord at HE
    rw [hC] at HE
    have HC := Lib.hid hC
    clear hC
    go_enter Tryz.func94, Tryz.ntmps94
    go_upto_region 1 with fail
    rw [← hW]
    clear hW
    go_wp2_with fail
    refine (containsS_c _ _ _ _ x H.out).mono ?_
    rw [HC.out]
    rintro e w1 ⟨rfl, hb⟩
    have HB1 := Lib.hid (HB.out.trans (hb.mono HB.out.size))
    clear hb c0 c1 c2 c3 g0
    go_wp2_with fail
    go_ret
    exact ⟨ret_bool HE.out, HB1.out⟩
  · have HE : Hid (false = B) := by
      rw [beq_eq_false_iff_ne.2 hk] at hB
      exact hB
    have q0 : ((k : Int) == 1) = false := by simp; omega
    clear hB
    go_enter Tryz.func94, Tryz.ntmps94
    go_upto_region 1 with fail
    rw [← hW]
    clear hW
    go_wp2_with fail
    go_ret
    exact ⟨ret_bool HE.out, HB.out⟩
theorem cls_numbered (w : World) : ClsAt w (.func (.func 126) #[] #[]) numberedT := ⟨_, _, rfl, enters_of Tryz.func126 (by kernel_rfl) rfl, fun W t _ _ => numbered_c W t⟩
theorem cls_named {N : Nat} {w : World} (hN : N ≤ w.heap.size) (he : Wds N w) : ClsAt w (.func (.func 94) #[] #[]) namedT := ⟨_, _, rfl, enters_of Tryz.func94 (by kernel_rfl) rfl, fun W t hb _ => named_c N W t (Nat.le_trans hN hb.size) (he.after hb)⟩
theorem scope_yes (x : List UInt8) : scopesL.contains x = (scopeN x != 0) := by
  rw [Bool.eq_iff_iff, List.contains_iff_mem]
  unfold scopeN scopesL
  simp only [List.mem_cons, List.not_mem_nil, or_false, bne_iff_ne]
  constructor
  · rintro (rfl | rfl | rfl | rfl | rfl) <;> decide
  · intro h
    by_cases h1 : x = sHost
    · exact .inl h1
    by_cases h2 : x = sRack
    · exact .inr (.inl h2)
    by_cases h3 : x = sRow
    · exact .inr (.inr (.inl h3))
    by_cases h4 : x = sFeed
    · exact .inr (.inr (.inr (.inl h4)))
    by_cases h5 : x = sLoop
    · exact .inr (.inr (.inr (.inr h5)))
    · rw [if_neg h1, if_neg h2, if_neg h3, if_neg h4, if_neg h5] at h
      exact absurd rfl h
theorem cls_scoped {N : Nat} {w : World} (hN : N ≤ w.heap.size) (he : Wds N w) : ClsAt w (.func (.func 128) #[] #[]) scopedT := ⟨_, _, rfl, enters_of Tryz.func128 (by kernel_rfl) rfl, fun W t hb _ => by
  have := scoped_c N W t (Nat.le_trans hN hb.size) (he.after hb)
  rw [scope_yes] at this
  exact this⟩
set_option maxRecDepth 100000 in
set_option maxHeartbeats 2000000 in
theorem want1_c (w : World) (t : Tok) (s : List UInt8) (b : Nat) (h : w.cell? ⟨b, 0, none⟩ = some (.string (bs s))) : Calls Tryz.prog 107 #[tokV t, .pointer (some ⟨b, 0, none⟩)] w (RetB w (t.text == s)) := by
  obtain ⟨k, x, n, o⟩ := t
  unfold tokV
  have hlt : b < w.heap.size := World.block_lt_of_cell? _ _ h
  obtain ⟨B, hB⟩ : ∃ B, (x == s) = B := ⟨_, rfl⟩
  show Calls _ _ _ _ (RetB w (x == s))
  rw [hB]
  by_cases he : x = s
  · subst he
    have q1 := bs_eq_self x
    have HE : Hid (true = B) := by rw [← hB]; exact (beq_self_eq_true x).symm
    clear hB
    go_enter Tryz.func107, Tryz.ntmps107
    go_wp2_with fail
    go_ret
    exact ⟨ret_bool HE.out, held_alloc (Below.refl _ _)⟩
  · have q1 := bs_eq_no he
    have HE : Hid (false = B) := by rw [← hB]; exact (beq_eq_false_iff_ne.2 he).symm
    clear hB he
    go_enter Tryz.func107, Tryz.ntmps107
    go_wp2_with fail
    go_ret
    exact ⟨ret_bool HE.out, held_alloc (Below.refl _ _)⟩
theorem cls_want {w : World} {b : Nat} {s : List UInt8} (h : w.cell? ⟨b, 0, none⟩ = some (.string (bs s))) : ClsAt w (.func (.func 107) #[] #[.pointer (some ⟨b, 0, none⟩)]) (fun t => t.text == s) := ⟨_, _, rfl, enters_of Tryz.func107 (by kernel_rfl) rfl, fun W t hb _ => want1_c W t s b (keep_cell hb h)⟩
end Go.Proofs.YtganlldidjbpiaaGreatDoor

namespace Go.Proofs.YtganlldidjbpiaaGreatDoor
open Go.RowKit Go.Shelf

theorem PS.nil {w : World} {p : Nat} {en : Int} (h : PS w p [] en) : ∃ a c, Box w p #[.slice a 0 c, .int .i64 en] 47 ∧ c ≤ 9223372036854775807 := by
  obtain ⟨v, h1, h2⟩ := h
  obtain ⟨a, c, rfl, _, h3, _⟩ := h2.2.shape
  exact ⟨a, c, h1, h3⟩
theorem PS.cons {w : World} {p : Nat} {t : Tok} {ts : List Tok} {en : Int} (h : PS w p (t :: ts) en) : ∃ b off c, Box w p #[.slice (some ⟨b, off, none⟩) (ts.length + 1) c, .int .i64 en] 47 ∧ ts.length + 1 ≤ c ∧ c ≤ 9223372036854775807 ∧ b < p ∧ TokOk t ∧
    w.cell? ⟨b, off, none⟩ = some (.int .u8 (t.kind : Int)) ∧ w.cell? ⟨b, off + 1, none⟩ = some (.string (bs t.text)) ∧ w.cell? ⟨b, off + 2, none⟩ = some (.int .i64 t.num) ∧ w.cell? ⟨b, off + 3, none⟩ = some (.int .i64 t.off) ∧
    ∀ q, (0 < ts.length → q = some ⟨b, off + 4, none⟩) → (q = none → c - 1 = 0) → SlT (fun b => b < p) w (.slice q ts.length (c - 1)) ts := by
  obtain ⟨v, h1, h2⟩ := h
  obtain ⟨b, off, c, rfl, a1, a2, a3, a4, a5, a6, a7, a8, a9, a10⟩ := h2.head
  exact ⟨b, off, c, h1, a1, a2, a3, a5, a6, a7, a8, a9, a10⟩
set_option maxRecDepth 100000 in
set_option maxHeartbeats 2000000 in
theorem at_c (w : World) (p : Nat) (ts : List Tok) (en : Int) (h : PS w p ts en) : Calls Tryz.prog 75 #[.pointer (some ⟨p, 0, none⟩)] w fun e w' => e = .returned (.int .i64 (offE en ts)) ∧ Below w.heap.size w w' := by
  cases ts with
  | nil =>
    obtain ⟨a, c, hb, _⟩ := h.nil
    have c0 : w.cell? ⟨p, 0, none⟩ = some (.slice a 0 c) := hb.cell 0
    have c1 : w.cell? ⟨p, 1, none⟩ = some (.int .i64 en) := hb.cell 1
    clear h hb
    unfold offE
    go_enter Tryz.func75, Tryz.ntmps75
    go_wp2_with fail
    go_ret
    exact ⟨rfl, Below.refl _ _⟩
  | cons t ts =>
    obtain ⟨b, off, c, hb, h1, h2, h3, _, _, _, _, k3, _⟩ := h.cons
    have c0 : w.cell? ⟨p, 0, none⟩ = some (.slice (some ⟨b, off, none⟩) (ts.length + 1) c) := hb.cell 0
    clear h hb
    have l0 : (0 : Int) < ((ts.length + 1 : Nat) : Int) := by omega
    unfold offE
    go_enter Tryz.func75, Tryz.ntmps75
    go_wp2_with fail
    go_ret
    exact ⟨rfl, Below.refl _ _⟩
/-- What the parser panics with. -/
def failE (o : Int) : PanicEntry := { v := .iface 49 (.agg #[.int .i64 o]), recovered := false }
/-- How a call that reads ends, by what the reader answers: it panics at the offset of the tokens where it fails; or it returns. -/
def Rd {α : Type} (S : Nat → Prop) (p : Nat) (en : Int) (w : World) (V : α → Value → World → Prop) (x : PR α) (e : Ending) (w' : World) : Prop := Fx S w w' ∧ match x with
  | .error r => e = .panicked [failE (offE en r)]
  | .ok (a, r) => PS w' p r en ∧ ∃ v, e = .returned v ∧ V a v w'
/-- The parser goes one token on. -/
theorem PS.step {w1 : World} {p c : Nat} {ts : List Tok} {en : Int} {x : Value} {q : Option Addr} (hb : Box w1 p #[x, .int .i64 en] 47) (hs : SlT (fun b => b < p) w1 (.slice q ts.length c) ts) :
    PS (w1.setCell ⟨p, 0, none⟩ (.slice q ts.length c)) p ts en ∧ Fx (fun b => b = p) w1 (w1.setCell ⟨p, 0, none⟩ (.slice q ts.length c)) := by
  refine ⟨⟨_, by simpa using hb.set 0 (.slice q ts.length c), hs.fx (Fx.set w1 p 0 _) (fun b hb _ e => by omega)⟩, Fx.set w1 p 0 _⟩
theorem end_tk {w : World} {b : Nat} {x0 x1 x2 x3 : Value} {t : TypeId} (h : Box w b #[x0, x1, x2, x3] t) (y0 y1 y2 y3 : Value) :
    Box ((((w.setCell ⟨b, 0, none⟩ y0).setCell ⟨b, 1, none⟩ y1).setCell ⟨b, 2, none⟩ y2).setCell ⟨b, 3, none⟩ y3) b #[y0, y1, y2, y3] t := by
  have := (((h.set 0 y0).set 1 y1).set 2 y2).set 3 y3
  simpa using this
theorem fx_set4 (w : World) (g o : Nat) (a0 a1 a2 a3 : Value) : Fx (fun b => b = g) w ((((w.setCell ⟨g, o, none⟩ a0).setCell ⟨g, o + 1, none⟩ a1).setCell ⟨g, o + 2, none⟩ a2).setCell ⟨g, o + 3, none⟩ a3) :=
  (((Fx.set w g o a0).trans (Fx.set _ g (o + 1) a1)).trans (Fx.set _ g (o + 2) a2)).trans (Fx.set _ g (o + 3) a3)
set_option maxRecDepth 100000 in
set_option maxHeartbeats 4000000 in
theorem next_c (w : World) (p : Nat) (ts : List Tok) (en : Int) (cv : Value) (cls : Tok → Bool) (h : PS w p ts en) (hc : ClsAt w cv cls) :
    Calls Tryz.prog 76 #[.pointer (some ⟨p, 0, none⟩), cv] w (Rd (fun b => b = p) p en w (fun t v _ => v = tokV t ∧ TokOk t) (nextP cls ts)) := by
  obtain ⟨W0, hW⟩ : ∃ W0, W0 = w.alloc (.cells #[.int .u8 0, .string ⟨#[]⟩, .int .i64 0, .int .i64 0] 37) := ⟨_, rfl⟩
  have HB : Hid (Below w.heap.size w W0) := hW ▸ held_alloc (Below.refl _ w)
  have bx : Box W0 w.heap.size #[.int .u8 0, .string ⟨#[]⟩, .int .i64 0, .int .i64 0] 37 := hW ▸ Box.new w _ _
  have hp0 := h.lt
  have H := Lib.hid (h.after HB.out)
  obtain ⟨f, cap, rfl, hen, hcl⟩ := hc
  have HC := Lib.hid hcl
  clear hcl h
  cases ts with
  | nil =>
    obtain ⟨a, c, hb, _⟩ := H.out.nil
    have c0 : W0.cell? ⟨p, 0, none⟩ = some (.slice a 0 c) := hb.cell 0
    clear hb bx
    go_enter Tryz.func76, Tryz.ntmps76
    go_upto_region 1 with fail
    rw [← hW]
    clear hW
    go_wp2_with fail
    refine (at_c _ _ _ _ H.out).mono ?_
    rintro e w1 ⟨rfl, hb1⟩
    have HB1 := Lib.hid (HB.out.trans (hb1.mono HB.out.size))
    clear hb1 c0
    go_wp2_with fail
    exact ⟨rfl, Fx.of_below HB1.out, rfl⟩
  | cons t ts =>
    obtain ⟨b, off, c, hb, h1, h2, h3, ht, k0, k1, k2, k3, hq⟩ := H.out.cons
    have HQ := Lib.hid hq
    have HT := Lib.hid ht
    have BP := Lib.hid hb
    have BX := Lib.hid bx
    have hpw := hb.lt
    have c0 : W0.cell? ⟨p, 0, none⟩ = some (.slice (some ⟨b, off, none⟩) (ts.length + 1) c) := hb.cell 0
    have hbw : b < W0.heap.size := Nat.lt_trans h3 hpw
    clear hb bx ht hq
    have l0 : (0 : Int) < ((ts.length + 1 : Nat) : Int) := by omega
    have l1 : (((ts.length + 1 : Nat) : Int) == 0) = false := by simp; omega
    have l2 : (1 : Int) ≤ ((ts.length + 1 : Nat) : Int) := by omega
    have HCW := HC.out W0 t HB.out HT.out
    obtain ⟨x, hx⟩ : ∃ x, nextP cls (t :: ts) = x := ⟨_, rfl⟩
    rw [hx]
    have HX := Lib.hid hx
    clear hx
    go_enter Tryz.func76, Tryz.ntmps76
    go_upto_region 1 with fail
    rw [← hW]
    clear hW
    go_wp2_with fail
    refine HCW.mono ?_
    rintro e w1 ⟨rfl, hb1⟩
    clear HCW
    have HB1 := Lib.hid (HB.out.trans (hb1.mono HB.out.size))
    have BP1 := Lib.hid (BP.out.after hb1)
    have HP1 := Lib.hid (H.out.after hb1)
    replace k0 := keep_cell hb1 k0
    replace k1 := keep_cell hb1 k1
    replace k2 := keep_cell hb1 k2
    replace k3 := keep_cell hb1 k3
    replace c0 := keep_cell hb1 c0
    have HQ1 : Hid (∀ q, (0 < ts.length → q = some ⟨b, off + 4, none⟩) → (q = none → c - 1 = 0) → SlT (fun b => b < p) w1 (.slice q ts.length (c - 1)) ts) := fun q h1 h2 => (HQ.out q h1 h2).fx (S := fun _ => False) (Fx.of_below hb1) (fun _ _ _ e => e)
    have hpw1 := BP1.out.lt
    have BX1 := Lib.hid (BX.out.after hb1)
    have hbw1 : b < w1.heap.size := Nat.lt_of_lt_of_le hbw hb1.size
    clear hb1 hpw hbw
    cases hcls : cls t with
    | false =>
      have HR : Hid (x = .error (t :: ts)) := by show _ = _; rw [← HX.out, nextP_at, if_neg (by rw [hcls]; simp)]
      clear hcls
      go_wp2_with fail
      refine (at_c _ _ _ _ HP1.out).mono ?_
      rintro e w2 ⟨rfl, hb2⟩
      have HB2 := Lib.hid (HB1.out.trans (hb2.mono HB1.out.size))
      clear hb2 c0 k0 k1 k2 k3
      go_wp2_with fail
      rw [HR.out]
      exact ⟨rfl, Fx.of_below HB2.out, rfl⟩
    | true =>
      have HR : Hid (x = .ok (t, ts)) := by show _ = _; rw [← HX.out, nextP_at, if_pos hcls]
      clear hcls
      have fz := BP1.out.frozen 0
      by_cases hc1 : c = 1
      · have hq1 : ts.length = 0 := by omega
        subst hc1
        have hst := PS.step (q := some ⟨b, off, none⟩) BP1.out (HQ1.out _ (fun h => by omega) (by simp))
        rw [hq1, show 1 - 1 = 0 from rfl] at hst
        obtain ⟨hps, hfx⟩ := hst
        obtain ⟨W4, hW4⟩ : ∃ W4, W4 = w1.setCell ⟨p, 0, none⟩ (.slice (some ⟨b, off, none⟩) 0 0) := ⟨_, rfl⟩
        rw [← hW4] at hps hfx
        obtain ⟨W5, hW5⟩ : ∃ W5, W5 = W4.alloc (.cells #[.int .u8 (t.kind : Int), .string (bs t.text), .int .i64 t.num, .int .i64 t.off] 37) := ⟨_, rfl⟩
        have hs4 : W4.heap.size = w1.heap.size := by rw [hW4]; simp [World.setCell]
        have hb5 : Below W4.heap.size W4 W5 := hW5 ▸ held_alloc (Below.refl _ W4)
        have bn : Box W5 W4.heap.size #[.int .u8 (t.kind : Int), .string (bs t.text), .int .i64 t.num, .int .i64 t.off] 37 := hW5 ▸ Box.new W4 _ _
        have bx5 := (BX1.out.fx hfx (by omega)).after hb5
        have HF5 : Hid (Fx (fun b => b = p) w W5) := ((Fx.of_below HB1.out).trans hfx).below hb5
        have HP5 := Lib.hid (hps.after hb5)
        rw [hs4] at bn
        go_upto_region 5 with fail
        rw [← hW4, ← hW5]
        clear hW4 hW5 hb5 hps hfx hs4 c0 k0 k1 k2 k3 fz
        obtain ⟨n0, n1, n2, n3⟩ := bn.cells4
        obtain ⟨x0, x1, x2, x3⟩ := bx5.cells4
        have z0 := bx5.frozen 0
        have z1 := bx5.frozen 1
        have z2 := bx5.frozen 2
        have z3 := bx5.frozen 3
        have HE := Lib.hid (end_tk bx5 (.int .u8 (t.kind : Int)) (.string (bs t.text)) (.int .i64 t.num) (.int .i64 t.off))
        clear bn bx5
        go_wp2_with fail
        obtain ⟨e0, e1, e2, e3⟩ := HE.out.cells4
        refine bodyPost_ret (v := tokV t) (by simp [results, Tryz.results76, go_sem, tokV, e0, e1, e2, e3]) rfl ?_
        have hf6 := fx_set4 W5 w.heap.size 0 (.int .u8 (t.kind : Int)) (.string (bs t.text)) (.int .i64 t.num) (.int .i64 t.off)
        rw [HR.out]
        refine ⟨HF5.out.new hf6 (fun b e => .inr (by omega)), HP5.out.fx hf6 (fun b e => by omega), _, rfl, rfl, HT.out⟩
      · have hc2 : ¬ 1 = c := fun e => hc1 e.symm
        obtain ⟨hps, hfx⟩ := PS.step (q := some ⟨b, off + 4, none⟩) BP1.out (HQ1.out _ (fun _ => rfl) (by simp))
        obtain ⟨W4, hW4⟩ : ∃ W4, W4 = w1.setCell ⟨p, 0, none⟩ (.slice (some ⟨b, off + 4, none⟩) ts.length (c - 1)) := ⟨_, rfl⟩
        rw [← hW4] at hps hfx
        obtain ⟨W5, hW5⟩ : ∃ W5, W5 = W4.alloc (.cells #[.int .u8 (t.kind : Int), .string (bs t.text), .int .i64 t.num, .int .i64 t.off] 37) := ⟨_, rfl⟩
        have hs4 : W4.heap.size = w1.heap.size := by rw [hW4]; simp [World.setCell]
        have hb5 : Below W4.heap.size W4 W5 := hW5 ▸ held_alloc (Below.refl _ W4)
        have bn : Box W5 W4.heap.size #[.int .u8 (t.kind : Int), .string (bs t.text), .int .i64 t.num, .int .i64 t.off] 37 := hW5 ▸ Box.new W4 _ _
        have bx5 := (BX1.out.fx hfx (by omega)).after hb5
        have HF5 : Hid (Fx (fun b => b = p) w W5) := ((Fx.of_below HB1.out).trans hfx).below hb5
        have HP5 := Lib.hid (hps.after hb5)
        rw [hs4] at bn
        go_upto_region 5 with fail
        rw [← hW4, ← hW5]
        clear hW4 hW5 hb5 hps hfx hs4 c0 k0 k1 k2 k3 fz
        obtain ⟨n0, n1, n2, n3⟩ := bn.cells4
        obtain ⟨x0, x1, x2, x3⟩ := bx5.cells4
        have z0 := bx5.frozen 0
        have z1 := bx5.frozen 1
        have z2 := bx5.frozen 2
        have z3 := bx5.frozen 3
        have HE := Lib.hid (end_tk bx5 (.int .u8 (t.kind : Int)) (.string (bs t.text)) (.int .i64 t.num) (.int .i64 t.off))
        clear bn bx5
        go_wp2_with fail
        obtain ⟨e0, e1, e2, e3⟩ := HE.out.cells4
        refine bodyPost_ret (v := tokV t) (by simp [results, Tryz.results76, go_sem, tokV, e0, e1, e2, e3]) rfl ?_
        have hf6 := fx_set4 W5 w.heap.size 0 (.int .u8 (t.kind : Int)) (.string (bs t.text)) (.int .i64 t.num) (.int .i64 t.off)
        rw [HR.out]
        refine ⟨HF5.out.new hf6 (fun b e => .inr (by omega)), HP5.out.fx hf6 (fun b e => by omega), _, rfl, rfl, HT.out⟩
end Go.Proofs.YtganlldidjbpiaaGreatDoor

namespace Go.Proofs.YtganlldidjbpiaaGreatDoor
open Go.RowKit Go.Shelf

theorem run_mkf (fn : Fn) (first cap : Array Value) (w : World) : (Instr.makeFunc fn first cap).run Tryz.prog w = .ok (.func fn first cap) w := rfl
theorem run_fieldT1 (w : World) (k n o : Int) (x : ByteArray) : Sem.run Tryz.prog (Instr.field 37 (.agg #[.int .u8 k, .string x, .int .i64 n, .int .i64 o]) 1) w = .ok (.string x) w := by kernel_rfl
theorem run_fieldT2 (w : World) (k n o : Int) (x : ByteArray) : Sem.run Tryz.prog (Instr.field 37 (.agg #[.int .u8 k, .string x, .int .i64 n, .int .i64 o]) 2) w = .ok (.int .i64 n) w := by kernel_rfl
attribute [local go_sem ↓] run_fieldT1 run_fieldT2
set_option maxRecDepth 100000 in
set_option maxHeartbeats 2000000 in
theorem number_c (w : World) (p : Nat) (ts : List Tok) (en : Int) (h : PS w p ts en) : Calls Tryz.prog 111 #[.pointer (some ⟨p, 0, none⟩)] w (Rd (fun b => b = p) p en w (fun z v _ => v = .int .i64 z ∧ In64 z) (numP ts)) := by
  obtain ⟨x, hx⟩ : ∃ x, numP ts = x := ⟨_, rfl⟩
  rw [hx]
  have HX := Lib.hid hx
  have H := Lib.hid h
  clear hx h
  go_enter Tryz.func111, Tryz.ntmps111
  go_wp2_with fail
  refine (next_c _ p ts en _ numberedT H.out (cls_numbered w)).mono ?_
  rintro e w1 ⟨hf, hr⟩
  have HF := Lib.hid hf
  clear hf
  rcases hn : nextP numberedT ts with r | ⟨t, r⟩
  · rw [hn] at hr
    have HE : Hid (x = .error r) := by show _ = _; rw [← HX.out]; unfold numP; rw [hn]; rfl
    clear hn
    have hr : e = _ := hr
    subst hr
    go_wp2_with fail
    rw [HE.out]
    exact ⟨rfl, HF.out, rfl⟩
  · rw [hn] at hr
    have HE : Hid (x = .ok (t.num, r)) := by show _ = _; rw [← HX.out]; unfold numP; rw [hn]; rfl
    clear hn
    obtain ⟨hp, v, rfl, rfl, ht⟩ := hr
    have HP := Lib.hid hp
    have HT := Lib.hid ht
    clear hp ht
    unfold tokV
    go_wp2_with fail
    go_ret
    rw [HE.out]
    exact ⟨HF.out, HP.out, _, rfl, rfl, HT.out.2.1⟩
set_option maxRecDepth 100000 in
set_option maxHeartbeats 2000000 in
theorem name_c (N : Nat) (w : World) (p : Nat) (ts : List Tok) (en : Int) (h : PS w p ts en) (hN : N ≤ w.heap.size) (he : Wds N w) : Calls Tryz.prog 108 #[.pointer (some ⟨p, 0, none⟩)] w (Rd (fun b => b = p) p en w (fun n v _ => v = .string (bs n) ∧ n.length ≤ 9223372036854775807) (nameP ts)) := by
  obtain ⟨x, hx⟩ : ∃ x, nameP ts = x := ⟨_, rfl⟩
  rw [hx]
  have HX := Lib.hid hx
  have H := Lib.hid h
  have HC := Lib.hid (cls_named hN he)
  clear hx h he
  go_enter Tryz.func108, Tryz.ntmps108
  go_wp2_with fail
  refine (next_c _ p ts en _ namedT H.out HC.out).mono ?_
  rintro e w1 ⟨hf, hr⟩
  have HF := Lib.hid hf
  clear hf
  rcases hn : nextP namedT ts with r | ⟨t, r⟩
  · rw [hn] at hr
    have HE : Hid (x = .error r) := by show _ = _; rw [← HX.out]; unfold nameP; rw [hn]; rfl
    clear hn
    have hr : e = _ := hr
    subst hr
    go_wp2_with fail
    rw [HE.out]
    exact ⟨rfl, HF.out, rfl⟩
  · rw [hn] at hr
    have HE : Hid (x = .ok (t.text, r)) := by show _ = _; rw [← HX.out]; unfold nameP; rw [hn]; rfl
    clear hn
    obtain ⟨hp, v, rfl, rfl, ht⟩ := hr
    have HP := Lib.hid hp
    have HT := Lib.hid ht
    clear hp ht
    unfold tokV
    go_wp2_with fail
    go_ret
    rw [HE.out]
    exact ⟨HF.out, HP.out, _, rfl, rfl, HT.out.2.2.2⟩
set_option maxRecDepth 100000 in
set_option maxHeartbeats 2000000 in
theorem want_c (w : World) (p : Nat) (ts : List Tok) (en : Int) (s : List UInt8) (h : PS w p ts en) : Calls Tryz.prog 78 #[.pointer (some ⟨p, 0, none⟩), .string (bs s)] w (Rd (fun b => b = p) p en w (fun _ v _ => v = .tuple #[]) (wantP s ts)) := by
  obtain ⟨W0, hW⟩ : ∃ W0, W0 = w.alloc (.cells #[.string (bs s)] 9) := ⟨_, rfl⟩
  have HB : Hid (Below w.heap.size w W0) := hW ▸ held_alloc (Below.refl _ w)
  have bx : Box W0 w.heap.size #[.string (bs s)] 9 := hW ▸ Box.new w _ _
  have HC : Hid (ClsAt W0 (.func (.func 107) #[] #[.pointer (some ⟨w.heap.size, 0, none⟩)]) (fun t => t.text == s)) := cls_want (bx.cell 0)
  have H := Lib.hid (h.after HB.out)
  have hmf := run_mkf
  obtain ⟨x, hx⟩ : ∃ x, wantP s ts = x := ⟨_, rfl⟩
  rw [hx]
  have HX : Hid (nextP (fun t => t.text == s) ts = x) := hx
  clear hx h bx
  go_enter Tryz.func78, Tryz.ntmps78
  go_upto_region 1 with fail
  rw [← hW]
  clear hW
  go_wp2_with fail
  refine (next_c _ p ts en _ _ H.out HC.out).mono ?_
  rw [HX.out]
  rintro e w1 ⟨hf, hr⟩
  have HF := Lib.hid ((Fx.of_below HB.out).trans hf)
  clear hf
  rcases x with r | ⟨t, r⟩
  · have hr : e = _ := hr
    subst hr
    go_wp2_with fail
    exact ⟨rfl, HF.out, rfl⟩
  · obtain ⟨hp, v, rfl, rfl, ht⟩ := hr
    have HP := Lib.hid hp
    clear hp ht
    go_wp2_with fail
    go_end0
    exact ⟨HF.out, HP.out, _, rfl, rfl⟩
/-- What have answers, and the tokens behind it. -/
def haveF (s : List UInt8) : List Tok → Bool × List Tok
  | [] => (false, [])
  | t :: r => if t.text == s then (true, r) else (false, t :: r)
set_option maxRecDepth 100000 in
set_option maxHeartbeats 4000000 in
theorem have_c (w : World) (p : Nat) (ts : List Tok) (en : Int) (s : List UInt8) (h : PS w p ts en) : Calls Tryz.prog 109 #[.pointer (some ⟨p, 0, none⟩), .string (bs s)] w fun e w' => e = .returned (.bool (haveF s ts).1) ∧ PS w' p (haveF s ts).2 en ∧ Fx (fun b => b = p) w w' := by
  have H := Lib.hid h
  cases ts with
  | nil =>
    obtain ⟨a, c, hb, _⟩ := h.nil
    have c0 : w.cell? ⟨p, 0, none⟩ = some (.slice a 0 c) := hb.cell 0
    clear h hb
    unfold haveF
    go_enter Tryz.func109, Tryz.ntmps109
    go_wp2_with fail
    go_ret
    exact ⟨rfl, H.out, Fx.refl _ _⟩
  | cons t ts =>
    obtain ⟨b, off, c, hb, h1, h2, h3, ht, k0, k1, k2, k3, hq⟩ := H.out.cons
    have HQ := Lib.hid hq
    have BP := Lib.hid hb
    have hpw := hb.lt
    have c0 : w.cell? ⟨p, 0, none⟩ = some (.slice (some ⟨b, off, none⟩) (ts.length + 1) c) := hb.cell 0
    have hbw : b < w.heap.size := Nat.lt_trans h3 hpw
    have fz := hb.frozen 0
    clear hb ht hq h k0 k2 k3
    have l0 : (0 : Int) < ((ts.length + 1 : Nat) : Int) := by omega
    have l1 : (((ts.length + 1 : Nat) : Int) == 0) = false := by simp; omega
    have l2 : (1 : Int) ≤ ((ts.length + 1 : Nat) : Int) := by omega
    obtain ⟨x, hx⟩ : ∃ x, t.text = x := ⟨_, rfl⟩
    obtain ⟨y, hy⟩ : ∃ y, haveF s (t :: ts) = y := ⟨_, rfl⟩
    rw [hy]
    rw [hx] at k1
    have hy : (if t.text == s then (true, ts) else (false, t :: ts)) = y := hy
    rw [hx] at hy
    clear hx
    by_cases he : x = s
    · subst he
      have HY : Hid (y = (true, ts)) := by show _ = _; rw [← hy, beq_self_eq_true]; rfl
      have q1 := bs_eq_self x
      clear hy
      by_cases hc1 : c = 1
      · have hq1 : ts.length = 0 := by omega
        subst hc1
        have hst := PS.step (q := some ⟨b, off, none⟩) BP.out (HQ.out _ (fun h => by omega) (by simp))
        rw [hq1, show 1 - 1 = 0 from rfl] at hst
        have HST := Lib.hid hst
        clear hst
        go_enter Tryz.func109, Tryz.ntmps109
        go_wp2_with fail
        go_ret
        rw [HY.out]
        exact ⟨rfl, HST.out⟩
      · have hc2 : ¬ 1 = c := fun e => hc1 e.symm
        have HST := Lib.hid (PS.step (q := some ⟨b, off + 4, none⟩) BP.out (HQ.out _ (fun h => rfl) (by simp)))
        go_enter Tryz.func109, Tryz.ntmps109
        go_wp2_with fail
        go_ret
        rw [HY.out]
        exact ⟨rfl, HST.out⟩
    · have q1 := bs_eq_no he
      have q2 : ((bs x).toList != (bs s).toList) = true := by rw [bne, q1]; rfl
      have HY : Hid (y = (false, t :: ts)) := by show _ = _; rw [← hy, beq_eq_false_iff_ne.2 he]; rfl
      clear hy
      go_enter Tryz.func109, Tryz.ntmps109
      go_wp2_with fail
      go_ret
      rw [HY.out]
      exact ⟨rfl, H.out, Fx.refl _ _⟩
end Go.Proofs.YtganlldidjbpiaaGreatDoor

/- Journal, walks of the package: written, Line, Lines.
   Journal, walks of the package: Line.
   Journal, walks of the package: Lines. -/
import Derived.Test.YtpaoeeamlinaaaaGreatDoorK03
import Derived.Test.YtpaoeeamlinaaaaGreatDoorK07
set_option linter.unusedVariables false
namespace Go.Proofs.YtpaoeeamlinaaaaGreatDoor
open Go.RowKit

theorem append_bs (a b : List UInt8) : bs a ++ bs b = bs (a ++ b) := by
  have h : (bs a ++ bs b).data = (bs (a ++ b)).data := by
    rw [ByteArray.data_append]
    simp [bs]
  cases hx : bs a ++ bs b
  rw [hx] at h
  simp only [bs] at h ⊢
  rw [h]
/-- The line of a word and numbers. -/
def wtext (word : List UInt8) (l : List Int) : List UInt8 := (word ++ (spaced l ++ [32])) ++ 35 :: (dd (sumT (word ++ (spaced l ++ [32]))) ++ [10])
theorem line_wtext (r : Rec) : lineT r = wtext (wordK r.kind) (numsOf r) := rfl
theorem dd_len7 {z : Int} (h : InR z) : (dd z.toNat).length ≤ 7 := dd_len 7 _ (by decide) (by have := h.1; have := h.2; omega)
theorem spaced_len : ∀ {l : List Int}, (∀ z ∈ l, InR z) → (spaced l).length ≤ 8 * l.length
  | [], _ => by simp [spaced]
  | z :: l, h => by
    have h1 := dd_len7 (h z (by simp))
    have h2 := spaced_len (fun y hy => h y (List.mem_cons_of_mem _ hy) : ∀ y ∈ l, InR y)
    unfold spaced at h2 ⊢
    simp only [List.flatMap_cons, List.length_append, List.length_cons]
    omega
theorem spaced_take (l : List Int) (i : Nat) (hi : i < l.length) : spaced (l.take (i + 1)) = spaced (l.take i) ++ 32 :: dd (l.getD i 0).toNat := by
  unfold spaced
  rw [List.take_succ_eq_append_getElem hi, List.flatMap_append, List.getD_eq_getElem?_getD, List.getElem?_eq_getElem hi]
  simp

set_option maxRecDepth 100000 in
set_option maxHeartbeats 2000000 in
theorem written_c (w : World) (word : List UInt8) (v : Value) (l : List Int) (h : SlI w v l) (hr : ∀ z ∈ l, InR z) (hl : l.length ≤ 1000) (hw : word.length ≤ 100) (he : Env w) :
    Calls Tryz.prog 28 #[.string (bs word), v] w fun e w' => e = .returned (.string (bs (wtext word l))) ∧ Below w.heap.size w w' := by
  obtain ⟨p, c, rfl, h1, h2, _⟩ := h.2.shape
  obtain ⟨W0, hW⟩ : ∃ W0, W0 = w.alloc (.cells #[.pointer none, .slice none 0 0] 75) := ⟨_, rfl⟩
  have hb0 : Below w.heap.size w W0 := by rw [hW]; exact held_alloc (Below.refl _ _)
  have hB : IsB W0 w.heap.size w.heap.size [] := by rw [hW]; exact IsB.new w (Nat.le_refl _)
  have HB := Lib.hid hB
  have HB0 := Lib.hid hb0
  have H := Lib.hid h
  have HR := Lib.hid hr
  have HE := Lib.hid he
  have hz0 : w.heap.size ≤ W0.heap.size := hb0.size
  clear h hr he hb0 hB
  go_enter Tryz.func28, Tryz.ntmps28
  go_upto_region 2 with fail
  rw [← hW]
  clear hW
  go_wp2_with fail
  refine (write_c w.heap.size w.heap.size [] word W0 HB.out (by simp; omega) hz0).mono ?_
  rintro e w1 ⟨rfl, hB1, hb1⟩
  rw [List.nil_append] at hB1
  have HB1 := Lib.hid hB1
  have HBL1 := Lib.hid hb1
  clear hB1 hb1
  go_wp2_with fail
  go_loopg [12] l.length (fun g t wx => ∃ i : Nat, i ≤ l.length ∧ g = l.length - i ∧ t = .int .i64 (i : Int) ∧ Hid (IsB wx w.heap.size w.heap.size (word ++ spaced (l.take i))) ∧ Hid (Below w.heap.size W0 wx))
  case atStart => exact ⟨0, Nat.zero_le _, rfl, rfl, by rw [List.take_zero, show spaced [] = [] from rfl, List.append_nil]; exact HB1.out, HBL1.out⟩
  case round =>
    clear HB1 HBL1
    obtain ⟨i, hi, rfl, rfl, hB, hbl⟩ := hrel
    have hsz := hbl.out.size
    have hbl0 : Hid (Below w.heap.size w wr) := HB0.out.trans hbl.out
    have HEr : Hid (Env wr) := HE.out.after hbl0.out
    by_cases hlt : i < l.length
    · obtain ⟨ba, oa, ca, ea, _, _, la, hca⟩ := (H.out.2.after hbl0.out).at_ (by omega)
      injection ea with ea _ ec
      subst ea ec
      have y0 : wr.cell? ⟨ba, oa + i, none⟩ = some (.int .i64 (l.getD i 0)) := by have := hca i hlt 0 (by omega); simpa using this
      clear hca
      have HZ : Hid (InR (l.getD i 0)) := by
        rw [List.getD_eq_getElem?_getD, List.getElem?_eq_getElem hlt]; exact HR.out _ (List.getElem_mem hlt)
      have HST := Lib.hid (spaced_take l i hlt)
      have HLN : Hid ((word ++ spaced (l.take i)).length ≤ 20000) := by
        have := spaced_len (l := l.take i) (fun z hz => HR.out z (List.mem_of_mem_take hz))
        rw [List.length_take] at this
        show _ ≤ _
        rw [List.length_append]; omega
      obtain ⟨z, hz⟩ : ∃ z, l.getD i 0 = z := ⟨_, rfl⟩
      rw [hz] at y0 HZ HST
      obtain ⟨d, hd⟩ : ∃ d, dd z.toNat = d := ⟨_, rfl⟩
      have HDL : Hid (d.length ≤ 7) := by rw [← hd]; exact dd_len7 HZ.out
      have HIT : Hid (Calls Tryz.prog 44 #[.int .i64 z] wr fun e w' => e = .returned (.string (bs d)) ∧ Below wr.heap.size wr w') := by
        rw [← hd]; exact itoa_c wr z HZ.out.1 (by have := HZ.out.2; omega) HEr.out
      rw [hd] at HST
      have hcat : (⟨#[32]⟩ : ByteArray) ++ bs d = bs (32 :: d) := append_bs [32] d
      obtain ⟨t, ht⟩ : ∃ t, bs (32 :: d) = bs t ∧ t = 32 :: d := ⟨_, rfl, rfl⟩
      rw [ht.1] at hcat
      have HT := Lib.hid ht.2
      have hdl : d.length ≤ 7 := HDL.out
      have hbsz := bs_size d
      have il : (i : Int) < (l.length : Int) := by omega
      have i0 : (0 : Int) ≤ (i : Int) := by omega
      clear hz hd ht
      go_wp2_with fail
      refine HIT.out.mono ?_
      rintro e w2 ⟨rfl, hb2⟩
      have HB2 : Hid (IsB w2 w.heap.size w.heap.size (word ++ spaced (l.take i))) := hB.out.after hb2
      have HBL2 : Hid (Below w.heap.size W0 w2) := hbl.out.trans (hb2.mono (Nat.le_trans hz0 hsz))
      clear hb2 y0
      go_wp2_with fail
      refine (write_c w.heap.size w.heap.size _ t w2 HB2.out (by have := HLN.out; have := HDL.out; rw [HT.out, List.length_cons]; omega) (Nat.le_trans hz0 HBL2.out.size)).mono ?_
      rintro e w3 ⟨rfl, hB3, hb3⟩
      have HB3 := Lib.hid hB3
      have HBL3 : Hid (Below w.heap.size W0 w3) := HBL2.out.trans hb3
      clear hB3 hb3
      go_wp2_with fail
      go_roundg (l.length - (i + 1))
      case measure => omega
      case rel => exact ⟨i + 1, by omega, rfl, by go_num, by rw [HST.out, ← List.append_assoc, ← HT.out]; exact HB3.out, HBL3.out⟩
    · obtain rfl : i = l.length := by omega
      have hB' : Hid (IsB wr w.heap.size w.heap.size (word ++ spaced l)) := by have := hB.out; rw [List.take_length] at this; exact this
      have hSL : (spaced l).length ≤ 8000 := by have := spaced_len (l := l) HR.out; omega
      have hszW := hbl0.out.size
      clear hB hlt
      obtain ⟨f, hf⟩ : ∃ f, word ++ (spaced l ++ [32]) = f := ⟨_, rfl⟩
      have hfl : f.length ≤ 20000 := by rw [← hf]; simp; omega
      have HF := Lib.hid hf
      have hpl : (word ++ spaced l).length + 1 ≤ 1000000000 := by rw [List.length_append]; omega
      have HPL := Lib.hid hpl
      obtain ⟨n, hn⟩ : ∃ n, sumT f = n := ⟨_, rfl⟩
      have hn0 : n < 9973 := by rw [← hn]; exact sumT_lt f
      have HN := Lib.hid hn
      obtain ⟨d, hd⟩ : ∃ d, dd n = d := ⟨_, rfl⟩
      have hdl : d.length ≤ 4 := by rw [← hd, ← hn]; exact sum_digits f
      have HD := Lib.hid hd
      clear hf hn hd hpl hSL
      obtain ⟨g1, hg1⟩ : ∃ g1, f ++ [35] = g1 := ⟨_, rfl⟩
      obtain ⟨g2, hg2⟩ : ∃ g2, g1 ++ d = g2 := ⟨_, rfl⟩
      obtain ⟨g3, hg3⟩ : ∃ g3, g2 ++ [10] = g3 := ⟨_, rfl⟩
      have c1 : bs f ++ (⟨#[35]⟩ : ByteArray) = bs g1 := by rw [← hg1]; exact append_bs f [35]
      have c2 : bs g1 ++ bs d = bs g2 := by rw [← hg2]; exact append_bs g1 d
      have c3 : bs g2 ++ (⟨#[10]⟩ : ByteArray) = bs g3 := by rw [← hg3]; exact append_bs g2 [10]
      have b1 := bs_size f
      have b2 := bs_size g1
      have b3 := bs_size g2
      have b4 := bs_size d
      have l1 : g1.length ≤ 30000 := by rw [← hg1, List.length_append]; simp; omega
      have l2 : g2.length ≤ 40000 := by rw [← hg2, List.length_append]; omega
      have HG : Hid (g3 = wtext word l) := by
        show _ = _
        unfold wtext
        rw [HF.out, HN.out, HD.out, ← hg3, ← hg2, ← hg1]
        simp
      clear hg1 hg2 hg3
      go_wp2_with fail
      refine (write_c w.heap.size w.heap.size _ [32] wr hB'.out HPL.out hszW).mono ?_
      rintro e w2 ⟨rfl, hB2, hb2⟩
      have HB2 : Hid (IsB w2 w.heap.size w.heap.size f) := by
        have h := hB2
        rw [List.append_assoc, HF.out] at h
        exact h
      have HBL2 : Hid (Below w.heap.size w w2) := hbl0.out.trans hb2
      clear hB2 hb2
      go_wp2_with fail
      refine (string_c w.heap.size w.heap.size f w2 HB2.out HBL2.out.size).mono ?_
      rintro e w3 ⟨rfl, hB3, hb3⟩
      have HB3 := Lib.hid hB3
      have HBL3 : Hid (Below w.heap.size w w3) := HBL2.out.trans hb3
      clear hB3 hb3
      go_wp2_with fail
      refine (string_c w.heap.size w.heap.size f w3 HB3.out HBL3.out.size).mono ?_
      rintro e w4 ⟨rfl, hB4, hb4⟩
      have HBL4 : Hid (Below w.heap.size w w4) := HBL3.out.trans hb4
      clear hB4 hb4
      go_wp2_with fail
      refine (Sum_c w4 f (by omega)).mono ?_
      rw [HN.out]
      rintro e w5 ⟨rfl, hb5⟩
      have HBL5 : Hid (Below w.heap.size w w5) := HBL4.out.trans (hb5.mono HBL4.out.size)
      clear hb5
      go_wp2_with fail
      refine (itoa_c w5 (n : Int) (by omega) (by omega) (HE.out.after HBL5.out)).mono ?_
      rw [Int.toNat_natCast, HD.out]
      rintro e w6 ⟨rfl, hb6⟩
      have HBL6 : Hid (Below w.heap.size w w6) := HBL5.out.trans (hb6.mono HBL5.out.size)
      clear hb6
      go_wp2_with fail
      go_ret
      exact ⟨by rw [HG.out]; rfl, HBL6.out⟩
end Go.Proofs.YtpaoeeamlinaaaaGreatDoor

namespace Go.Proofs.YtpaoeeamlinaaaaGreatDoor
open Go.RowKit

theorem canW_iff {r : Rec} (hs : Small8 r) : CanW r ↔ ((1 ≤ r.kind ∧ r.kind ≤ 5) ∧ Fits r.steps r.after) ∧ r = bareR r ∧ ∀ z ∈ numsOf r, InR z := by
  obtain ⟨k, p, i, l, a, ss, ls⟩ := r
  unfold CanW Bare bareR Fits
  simp only
  match k with
  | 0 => simp
  | 1 => simp [hs]; grind
  | 2 => simp [hs]; grind
  | 3 => simp [hs]; grind
  | 4 => simp [hs]; grind
  | 5 => simp [hs]; grind
  | n + 6 => simp
theorem IsR.small {w : World} {v : Value} {r : Rec} (h : IsR w v r) : Small8 r := by
  obtain ⟨h0, vs, va, _, h1, _⟩ := h
  exact ⟨h0.2.2.2.2, fun s hs => (h1.1 s hs).1⟩
def RetL (w : World) (r : Rec) (e : Ending) (w' : World) : Prop := e = .returned (.tuple #[.string (bs (lineF r).1), .int .i64 (lineF r).2]) ∧ Below w.heap.size w w'
theorem lineF_no {r : Rec} (h : ¬ CanW r) : lineF r = ([], 1) := by unfold lineF; rw [if_neg h]
theorem lineF_yes {r : Rec} (h : CanW r) : lineF r = (wtext (wordK r.kind) (numsOf r), 0) := by unfold lineF; rw [if_pos h, line_wtext]
theorem planned_len {ss : List Stp} {ls : List (List Int)} (h : Fits ss ls) : (planned ss ls).length ≤ 1000 := by
  obtain ⟨h1, h2, h3⟩ := h
  have h4 := flat_lists_len ls (fun a ha => Nat.le_of_not_lt fun hl => h3 ⟨a, ha, hl⟩)
  unfold planned
  rw [List.length_cons, List.length_append, flat_steps_len]
  omega
theorem numsOf_len {r : Rec} (h : Fits r.steps r.after) : (numsOf r).length ≤ 1000 := by
  unfold numsOf
  split
  · exact planned_len h
  all_goals simp
theorem wordK_len (k : Nat) : (wordK k).length ≤ 100 := by unfold wordK; split <;> simp
set_option maxRecDepth 100000 in
set_option maxHeartbeats 2000000 in
theorem line0 (w : World) (v : Value) (r : Rec) (h : IsR w v r) (he : Env w) (hk : r.kind = 0) (hno : ¬ CanW r) :
    Calls Tryz.prog 11 #[v] w (RetL w r) := by
  have HL := Lib.hid (lineF_no hno)
  clear hno
  obtain ⟨hok, vs, va, rfl, h1, h2⟩ := h
  obtain ⟨pS, cS, rfl, _, _, _⟩ := h1.2.shape
  obtain ⟨uL, huL, _⟩ := id h2
  obtain ⟨pL, cL, rfl, _, _, _⟩ := huL.shape
  clear huL
  obtain ⟨W0, hW⟩ : ∃ W0, W0 = w.alloc (.cells #[.int .u8 (r.kind : Int), .int .i64 r.place, .int .i64 r.id, .int .i64 r.lease, .int .u8 (r.ans : Int), .slice pS r.steps.length cS, .slice pL r.after.length cL] 29) := ⟨_, rfl⟩
  have hb0 : Below w.heap.size w W0 := by rw [hW]; exact held_alloc (Below.refl _ _)
  have bx : Box W0 w.heap.size #[.int .u8 (r.kind : Int), .int .i64 r.place, .int .i64 r.id, .int .i64 r.lease, .int .u8 (r.ans : Int), .slice pS r.steps.length cS, .slice pL r.after.length cL] 29 := by rw [hW]; exact Box.new _ _ _
  obtain ⟨wb, wo, wc, e1, e2, e3, e4, e5⟩ := (he.after hb0).2.2
  have H1 := Lib.hid h1
  have H2 := Lib.hid h2
  have HE := Lib.hid he
  have HOK := Lib.hid hok
  have HB0 := Lib.hid hb0
  have BX := Lib.hid bx
  have x0 : W0.cell? ⟨w.heap.size, 0, none⟩ = some (.int .u8 (r.kind : Int)) := bx.cell 0
  have x5 : W0.cell? ⟨w.heap.size, 5, none⟩ = some (.slice pS r.steps.length cS) := bx.cell 5
  have x6 : W0.cell? ⟨w.heap.size, 6, none⟩ = some (.slice pL r.after.length cL) := bx.cell 6
  have lx := bx.lt
  have hwr : IntKind.i64.wrap (r.kind : Int) = (r.kind : Int) := by have := hok.1; exact wrap_in (by omega) (by omega)
  have lg : 0 < W0.heap.size := World.block_lt_of_cell? _ _ e1
  clear h1 h2 he hok hb0 bx e2 e3 e4 e5
  show Calls _ _ #[.agg #[.int .u8 (r.kind : Int), .int .i64 r.place, .int .i64 r.id, .int .i64 r.lease, .int .u8 (r.ans : Int), .slice pS r.steps.length cS, .slice pL r.after.length cL]] w _
  have q0 : ((r.kind : Int) == 0) = true := by rw [beq_iff_eq]; omega
  clear hk x5 x6
  go_enter Tryz.func11, Tryz.ntmps11
  go_upto_region 1 with fail
  rw [← hW]
  clear hW
  go_wp2_with fail
  go_ret2
  exact ⟨by rw [HL.out]; rfl, HB0.out⟩
set_option maxRecDepth 100000 in
set_option maxHeartbeats 2000000 in
theorem line6 (w : World) (v : Value) (r : Rec) (h : IsR w v r) (he : Env w) (hk : 6 ≤ r.kind) (hno : ¬ CanW r) :
    Calls Tryz.prog 11 #[v] w (RetL w r) := by
  have HL := Lib.hid (lineF_no hno)
  clear hno
  obtain ⟨hok, vs, va, rfl, h1, h2⟩ := h
  obtain ⟨pS, cS, rfl, _, _, _⟩ := h1.2.shape
  obtain ⟨uL, huL, _⟩ := id h2
  obtain ⟨pL, cL, rfl, _, _, _⟩ := huL.shape
  clear huL
  obtain ⟨W0, hW⟩ : ∃ W0, W0 = w.alloc (.cells #[.int .u8 (r.kind : Int), .int .i64 r.place, .int .i64 r.id, .int .i64 r.lease, .int .u8 (r.ans : Int), .slice pS r.steps.length cS, .slice pL r.after.length cL] 29) := ⟨_, rfl⟩
  have hb0 : Below w.heap.size w W0 := by rw [hW]; exact held_alloc (Below.refl _ _)
  have bx : Box W0 w.heap.size #[.int .u8 (r.kind : Int), .int .i64 r.place, .int .i64 r.id, .int .i64 r.lease, .int .u8 (r.ans : Int), .slice pS r.steps.length cS, .slice pL r.after.length cL] 29 := by rw [hW]; exact Box.new _ _ _
  obtain ⟨wb, wo, wc, e1, e2, e3, e4, e5⟩ := (he.after hb0).2.2
  have H1 := Lib.hid h1
  have H2 := Lib.hid h2
  have HE := Lib.hid he
  have HOK := Lib.hid hok
  have HB0 := Lib.hid hb0
  have BX := Lib.hid bx
  have x0 : W0.cell? ⟨w.heap.size, 0, none⟩ = some (.int .u8 (r.kind : Int)) := bx.cell 0
  have x5 : W0.cell? ⟨w.heap.size, 5, none⟩ = some (.slice pS r.steps.length cS) := bx.cell 5
  have x6 : W0.cell? ⟨w.heap.size, 6, none⟩ = some (.slice pL r.after.length cL) := bx.cell 6
  have lx := bx.lt
  have hwr : IntKind.i64.wrap (r.kind : Int) = (r.kind : Int) := by have := hok.1; exact wrap_in (by omega) (by omega)
  have lg : 0 < W0.heap.size := World.block_lt_of_cell? _ _ e1
  clear h1 h2 he hok hb0 bx e2 e3 e4 e5
  show Calls _ _ #[.agg #[.int .u8 (r.kind : Int), .int .i64 r.place, .int .i64 r.id, .int .i64 r.lease, .int .u8 (r.ans : Int), .slice pS r.steps.length cS, .slice pL r.after.length cL]] w _
  have q0 : ((r.kind : Int) == 0) = false := by rw [beq_eq_false_iff_ne]; omega
  have q6 : decide (6 ≤ (r.kind : Int)) = true := decide_eq_true (by omega)
  have q6' : (6 : Int) ≤ (r.kind : Int) := by omega
  clear hk x5 x6
  go_enter Tryz.func11, Tryz.ntmps11
  go_upto_region 1 with fail
  rw [← hW]
  clear hW
  go_wp2_with fail
  go_ret2
  exact ⟨by rw [HL.out]; rfl, HB0.out⟩
set_option maxRecDepth 100000 in
set_option maxHeartbeats 2000000 in
theorem lineF0 (w : World) (v : Value) (r : Rec) (h : IsR w v r) (he : Env w) (hk0 : 1 ≤ r.kind) (hk5 : r.kind ≤ 5) (hf : ¬ Fits r.steps r.after) (hno : ¬ CanW r) :
    Calls Tryz.prog 11 #[v] w (RetL w r) := by
  have HL := Lib.hid (lineF_no hno)
  clear hno
  obtain ⟨hok, vs, va, rfl, h1, h2⟩ := h
  obtain ⟨pS, cS, rfl, _, _, _⟩ := h1.2.shape
  obtain ⟨uL, huL, _⟩ := id h2
  obtain ⟨pL, cL, rfl, _, _, _⟩ := huL.shape
  clear huL
  obtain ⟨W0, hW⟩ : ∃ W0, W0 = w.alloc (.cells #[.int .u8 (r.kind : Int), .int .i64 r.place, .int .i64 r.id, .int .i64 r.lease, .int .u8 (r.ans : Int), .slice pS r.steps.length cS, .slice pL r.after.length cL] 29) := ⟨_, rfl⟩
  have hb0 : Below w.heap.size w W0 := by rw [hW]; exact held_alloc (Below.refl _ _)
  have bx : Box W0 w.heap.size #[.int .u8 (r.kind : Int), .int .i64 r.place, .int .i64 r.id, .int .i64 r.lease, .int .u8 (r.ans : Int), .slice pS r.steps.length cS, .slice pL r.after.length cL] 29 := by rw [hW]; exact Box.new _ _ _
  obtain ⟨wb, wo, wc, e1, e2, e3, e4, e5⟩ := (he.after hb0).2.2
  have H1 := Lib.hid h1
  have H2 := Lib.hid h2
  have HE := Lib.hid he
  have HOK := Lib.hid hok
  have HB0 := Lib.hid hb0
  have BX := Lib.hid bx
  have x0 : W0.cell? ⟨w.heap.size, 0, none⟩ = some (.int .u8 (r.kind : Int)) := bx.cell 0
  have x5 : W0.cell? ⟨w.heap.size, 5, none⟩ = some (.slice pS r.steps.length cS) := bx.cell 5
  have x6 : W0.cell? ⟨w.heap.size, 6, none⟩ = some (.slice pL r.after.length cL) := bx.cell 6
  have lx := bx.lt
  have hwr : IntKind.i64.wrap (r.kind : Int) = (r.kind : Int) := by have := hok.1; exact wrap_in (by omega) (by omega)
  have lg : 0 < W0.heap.size := World.block_lt_of_cell? _ _ e1
  clear h1 h2 he hok hb0 bx e2 e3 e4 e5
  show Calls _ _ #[.agg #[.int .u8 (r.kind : Int), .int .i64 r.place, .int .i64 r.id, .int .i64 r.lease, .int .u8 (r.ans : Int), .slice pS r.steps.length cS, .slice pL r.after.length cL]] w _
  have q0 : ((r.kind : Int) == 0) = false := by rw [beq_eq_false_iff_ne]; omega
  have q6 : decide (6 ≤ (r.kind : Int)) = false := decide_eq_false (by omega)
  have q6' : ¬ (6 : Int) ≤ (r.kind : Int) := by omega
  have HK0 := Lib.hid hk0
  have HK5 := Lib.hid hk5
  clear hk0 hk5
  have HF := Lib.hid hf
  clear hf
  go_enter Tryz.func11, Tryz.ntmps11
  go_upto_region 1 with fail
  rw [← hW]
  clear hW
  go_wp2_with fail
  refine (fits_c W0 _ _ r.steps r.after (H1.out.after HB0.out) (H2.out.after HB0.out)).mono ?_
  rw [decide_eq_false HF.out]
  rintro e w1 ⟨rfl, hb1⟩
  have HB1 : Hid (Below w.heap.size w w1) := HB0.out.trans (hb1.mono HB0.out.size)
  clear hb1
  go_wp2_with fail
  go_ret2
  exact ⟨by rw [HL.out]; rfl, HB1.out⟩
set_option maxRecDepth 100000 in
set_option maxHeartbeats 2000000 in
theorem lineS (w : World) (v : Value) (r : Rec) (h : IsR w v r) (he : Env w) (hk0 : 1 ≤ r.kind) (hk5 : r.kind ≤ 5) (hf : Fits r.steps r.after) :
    Calls Tryz.prog 11 #[v] w (RetL w r) := by
  obtain ⟨hok, vs, va, rfl, h1, h2⟩ := h
  obtain ⟨pS, cS, rfl, _, _, _⟩ := h1.2.shape
  obtain ⟨uL, huL, _⟩ := id h2
  obtain ⟨pL, cL, rfl, _, _, _⟩ := huL.shape
  clear huL
  obtain ⟨W0, hW⟩ : ∃ W0, W0 = w.alloc (.cells #[.int .u8 (r.kind : Int), .int .i64 r.place, .int .i64 r.id, .int .i64 r.lease, .int .u8 (r.ans : Int), .slice pS r.steps.length cS, .slice pL r.after.length cL] 29) := ⟨_, rfl⟩
  have hb0 : Below w.heap.size w W0 := by rw [hW]; exact held_alloc (Below.refl _ _)
  have bx : Box W0 w.heap.size #[.int .u8 (r.kind : Int), .int .i64 r.place, .int .i64 r.id, .int .i64 r.lease, .int .u8 (r.ans : Int), .slice pS r.steps.length cS, .slice pL r.after.length cL] 29 := by rw [hW]; exact Box.new _ _ _
  obtain ⟨wb, wo, wc, e1, e2, e3, e4, e5⟩ := (he.after hb0).2.2
  have H1 := Lib.hid h1
  have H2 := Lib.hid h2
  have HE := Lib.hid he
  have HOK := Lib.hid hok
  have HB0 := Lib.hid hb0
  have BX := Lib.hid bx
  have x0 : W0.cell? ⟨w.heap.size, 0, none⟩ = some (.int .u8 (r.kind : Int)) := bx.cell 0
  have x5 : W0.cell? ⟨w.heap.size, 5, none⟩ = some (.slice pS r.steps.length cS) := bx.cell 5
  have x6 : W0.cell? ⟨w.heap.size, 6, none⟩ = some (.slice pL r.after.length cL) := bx.cell 6
  have lx := bx.lt
  have hwr : IntKind.i64.wrap (r.kind : Int) = (r.kind : Int) := by have := hok.1; exact wrap_in (by omega) (by omega)
  have lg : 0 < W0.heap.size := World.block_lt_of_cell? _ _ e1
  clear h1 h2 he hok hb0 bx e2 e3 e4 e5
  show Calls _ _ #[.agg #[.int .u8 (r.kind : Int), .int .i64 r.place, .int .i64 r.id, .int .i64 r.lease, .int .u8 (r.ans : Int), .slice pS r.steps.length cS, .slice pL r.after.length cL]] w _
  have q0 : ((r.kind : Int) == 0) = false := by rw [beq_eq_false_iff_ne]; omega
  have q6 : decide (6 ≤ (r.kind : Int)) = false := decide_eq_false (by omega)
  have q6' : ¬ (6 : Int) ≤ (r.kind : Int) := by omega
  have HK0 := Lib.hid hk0
  have HK5 := Lib.hid hk5
  clear hk0 hk5
  have HF := Lib.hid hf
  clear hf
  go_enter Tryz.func11, Tryz.ntmps11
  go_upto_region 1 with fail
  rw [← hW]
  clear hW
  go_wp2_with fail
  refine (fits_c W0 _ _ r.steps r.after (H1.out.after HB0.out) (H2.out.after HB0.out)).mono ?_
  rw [decide_eq_true HF.out]
  rintro e w1 ⟨rfl, hb1⟩
  have HB1 : Hid (Below w.heap.size w w1) := HB0.out.trans (hb1.mono HB0.out.size)
  have BX1 := Lib.hid (BX.out.after hb1)
  have z0 : w1.cell? ⟨w.heap.size, 0, none⟩ = some (.int .u8 (r.kind : Int)) := BX1.out.cell 0
  have z1 : w1.cell? ⟨w.heap.size, 1, none⟩ = some (.int .i64 r.place) := BX1.out.cell 1
  have z2 : w1.cell? ⟨w.heap.size, 2, none⟩ = some (.int .i64 r.id) := BX1.out.cell 2
  have z3 : w1.cell? ⟨w.heap.size, 3, none⟩ = some (.int .i64 r.lease) := BX1.out.cell 3
  have z4 : w1.cell? ⟨w.heap.size, 4, none⟩ = some (.int .u8 (r.ans : Int)) := BX1.out.cell 4
  have z5 : w1.cell? ⟨w.heap.size, 5, none⟩ = some (.slice pS r.steps.length cS) := BX1.out.cell 5
  have z6 : w1.cell? ⟨w.heap.size, 6, none⟩ = some (.slice pL r.after.length cL) := BX1.out.cell 6
  have zl := BX1.out.lt
  have HR1 : Hid (IsR w1 (.agg #[.int .u8 (r.kind : Int), .int .i64 r.place, .int .i64 r.id, .int .i64 r.lease, .int .u8 (r.ans : Int), .slice pS r.steps.length cS, .slice pL r.after.length cL]) r) := ⟨HOK.out, _, _, rfl, H1.out.after HB1.out, H2.out.after HB1.out⟩
  clear hb1 x0 x5 x6 lx lg e1
  go_wp2_with fail
  refine (numbers_c w1 _ r HR1.out HF.out.1 (by rw [HF.out.2.1]; exact HF.out.1) (fun a ha => Nat.le_of_not_lt fun hl => HF.out.2.2 ⟨a, ha, hl⟩)).mono ?_
  rintro e w2 ⟨vl, vr, rfl, hl2, hr2, hb2⟩
  obtain ⟨hok2, us, ua, rfl, k1, k2⟩ := hr2
  obtain ⟨pS2, cS2, rfl, _, _, _⟩ := k1.2.shape
  obtain ⟨uL2, huL2, _⟩ := id k2
  obtain ⟨pL2, cL2, rfl, _, _, _⟩ := huL2.shape
  clear huL2
  obtain ⟨lS, hlS⟩ : ∃ lS, (bareR r).steps.length = lS := ⟨_, rfl⟩
  obtain ⟨lL, hlL⟩ : ∃ lL, (bareR r).after.length = lL := ⟨_, rfl⟩
  rw [hlS] at k1 ⊢
  rw [hlL] at k2 ⊢
  have HL2 := Lib.hid hl2
  obtain ⟨q, hq⟩ : ∃ q, bareR r = q := ⟨_, rfl⟩
  have HQ := Lib.hid hq
  rw [hq] at hok2 k1 k2 ⊢
  have K1 := Lib.hid k1
  have K2 := Lib.hid k2
  have HOK2 := Lib.hid hok2
  have HB2 : Hid (Below w.heap.size w w2) := HB1.out.trans (hb2.mono HB1.out.size)
  have BX2 := Lib.hid (BX1.out.after hb2)
  have hsz2 := HB2.out.size
  clear hl2 k1 k2 hok2 hb2 z0 z1 z2 z3 z4 z5 z6 zl hlS hlL hq
  unfold recV
  go_upto_region 4 with fail
  obtain ⟨W3, hW3⟩ : ∃ W3, W3 = w2.alloc (.cells #[.int .u8 (q.kind : Int), .int .i64 q.place, .int .i64 q.id, .int .i64 q.lease, .int .u8 (q.ans : Int), .slice pS2 lS cS2, .slice pL2 lL cL2] 29) := ⟨_, rfl⟩
  rw [← hW3]
  have hb3 : Below w2.heap.size w2 W3 := by rw [hW3]; exact held_alloc (Below.refl _ _)
  have BY3 : Hid (Box W3 w2.heap.size #[.int .u8 (q.kind : Int), .int .i64 q.place, .int .i64 q.id, .int .i64 q.lease, .int .u8 (q.ans : Int), .slice pS2 lS cS2, .slice pL2 lL cL2] 29) := by rw [hW3]; exact Box.new _ _ _
  have BX3 := Lib.hid (BX2.out.after hb3)
  have HL3 := Lib.hid (HL2.out.after hb3)
  have HB3 : Hid (Below w.heap.size w W3) := HB2.out.trans (hb3.mono hsz2)
  have HQ3 : Hid (IsR W3 (.agg #[.int .u8 (q.kind : Int), .int .i64 q.place, .int .i64 q.id, .int .i64 q.lease, .int .u8 (q.ans : Int), .slice pS2 lS cS2, .slice pL2 lL cL2]) q) := ⟨HOK2.out, _, _, rfl, K1.out.after hb3, K2.out.after hb3⟩
  have HR3 : Hid (IsR W3 (.agg #[.int .u8 (r.kind : Int), .int .i64 r.place, .int .i64 r.id, .int .i64 r.lease, .int .u8 (r.ans : Int), .slice pS r.steps.length cS, .slice pL r.after.length cL]) r) := ⟨HOK.out, _, _, rfl, H1.out.after HB3.out, H2.out.after HB3.out⟩
  clear hW3 hb3 HL2 BX2 BX1
  have z0 : W3.cell? ⟨w.heap.size, 0, none⟩ = some (.int .u8 (r.kind : Int)) := BX3.out.cell 0
  have z1 : W3.cell? ⟨w.heap.size, 1, none⟩ = some (.int .i64 r.place) := BX3.out.cell 1
  have z2 : W3.cell? ⟨w.heap.size, 2, none⟩ = some (.int .i64 r.id) := BX3.out.cell 2
  have z3 : W3.cell? ⟨w.heap.size, 3, none⟩ = some (.int .i64 r.lease) := BX3.out.cell 3
  have z4 : W3.cell? ⟨w.heap.size, 4, none⟩ = some (.int .u8 (r.ans : Int)) := BX3.out.cell 4
  have z5 : W3.cell? ⟨w.heap.size, 5, none⟩ = some (.slice pS r.steps.length cS) := BX3.out.cell 5
  have z6 : W3.cell? ⟨w.heap.size, 6, none⟩ = some (.slice pL r.after.length cL) := BX3.out.cell 6
  have zl := BX3.out.lt
  have y0 : W3.cell? ⟨w2.heap.size, 0, none⟩ = some (.int .u8 (q.kind : Int)) := BY3.out.cell 0
  have y1 : W3.cell? ⟨w2.heap.size, 1, none⟩ = some (.int .i64 q.place) := BY3.out.cell 1
  have y2 : W3.cell? ⟨w2.heap.size, 2, none⟩ = some (.int .i64 q.id) := BY3.out.cell 2
  have y3 : W3.cell? ⟨w2.heap.size, 3, none⟩ = some (.int .i64 q.lease) := BY3.out.cell 3
  have y4 : W3.cell? ⟨w2.heap.size, 4, none⟩ = some (.int .u8 (q.ans : Int)) := BY3.out.cell 4
  have y5 : W3.cell? ⟨w2.heap.size, 5, none⟩ = some (.slice pS2 lS cS2) := BY3.out.cell 5
  have y6 : W3.cell? ⟨w2.heap.size, 6, none⟩ = some (.slice pL2 lL cL2) := BY3.out.cell 6
  have yl := BY3.out.lt
  by_cases hs : r = q
  rotate_left
  · have HS : Hid (decide (r = q) = false) := decide_eq_false hs
    have HL := Lib.hid (lineF_no (r := r) (fun hc => hs (((canW_iff HR1.out.small).1 hc).2.1.trans HQ.out)))
    clear hs
    go_wp2_with fail
    refine (Same_c W3 _ _ r q HR3.out HQ3.out).mono ?_
    rw [HS.out]
    rintro e w4 ⟨rfl, hb4⟩
    have HB4 : Hid (Below w.heap.size w w4) := HB3.out.trans (hb4.mono HB3.out.size)
    clear hb4 z0 z1 z2 z3 z4 z5 z6 zl y0 y1 y2 y3 y4 y5 y6 yl
    go_wp2_with fail
    go_ret2
    exact ⟨by rw [HL.out]; rfl, HB4.out⟩
  have HS : Hid (decide (r = q) = true) := decide_eq_true hs
  have HS' := Lib.hid hs
  clear hs
  by_cases hi : ∀ z ∈ numsOf r, InR z
  rotate_left
  · have HI : Hid (decide (¬ ∀ z ∈ numsOf r, InR z) = true) := decide_eq_true hi
    have HL := Lib.hid (lineF_no (r := r) (fun hc => hi (((canW_iff HR1.out.small).1 hc).2.2)))
    clear hi
    go_wp2_with fail
    refine (Same_c W3 _ _ r q HR3.out HQ3.out).mono ?_
    rw [HS.out]
    rintro e w4 ⟨rfl, hb4⟩
    have HB4 : Hid (Below w.heap.size w w4) := HB3.out.trans (hb4.mono HB3.out.size)
    have HL4 := Lib.hid (HL3.out.after hb4)
    clear hb4 z0 z1 z2 z3 z4 z5 z6 zl y0 y1 y2 y3 y4 y5 y6 yl
    go_wp2_with fail
    refine (containsI_c w4 _ _ HL4.out).mono ?_
    rw [HI.out]
    rintro e w5 ⟨rfl, hb5⟩
    have HB5 : Hid (Below w.heap.size w w5) := HB4.out.trans (hb5.mono HB4.out.size)
    clear hb5
    go_wp2_with fail
    go_ret2
    exact ⟨by rw [HL.out]; rfl, HB5.out⟩
  have HI : Hid (decide (¬ ∀ z ∈ numsOf r, InR z) = false) := decide_eq_false (fun h => h hi)
  have HI' := Lib.hid hi
  have HL := Lib.hid (lineF_yes (r := r) ((canW_iff HR1.out.small).2 ⟨⟨⟨HK0.out, HK5.out⟩, HF.out⟩, HS'.out.trans HQ.out.symm, hi⟩))
  clear hi
  go_wp2_with fail
  refine (Same_c W3 _ _ r q HR3.out HQ3.out).mono ?_
  rw [HS.out]
  rintro e w4 ⟨rfl, hb4⟩
  have HB4 : Hid (Below w.heap.size w w4) := HB3.out.trans (hb4.mono HB3.out.size)
  have HL4 := Lib.hid (HL3.out.after hb4)
  have BX4 := Lib.hid (BX3.out.after hb4)
  clear hb4 z0 z1 z2 z3 z4 z5 z6 zl y0 y1 y2 y3 y4 y5 y6 yl
  go_wp2_with fail
  refine (containsI_c w4 _ _ HL4.out).mono ?_
  rw [HI.out]
  rintro e w5 ⟨rfl, hb5⟩
  have HB5 : Hid (Below w.heap.size w w5) := HB4.out.trans (hb5.mono HB4.out.size)
  have HL5 := Lib.hid (HL4.out.after hb5)
  have x0 : w5.cell? ⟨w.heap.size, 0, none⟩ = some (.int .u8 (r.kind : Int)) := (BX4.out.after hb5).cell 0
  have xl := (BX4.out.after hb5).lt
  obtain ⟨wb', wo', wc', e1, e2, e3, e4, e5⟩ := (HE.out.after HB5.out).2.2
  have ek := e5 r.kind (by have := HK5.out; omega)
  have lg : 0 < w5.heap.size := World.block_lt_of_cell? _ _ e1
  have hk6 : (r.kind : Int) < 6 := q6'
  have hk0 : (0 : Int) ≤ (r.kind : Int) := by omega
  clear hb5 e5
  go_wp2_with fail
  refine (written_c w5 (wordK r.kind) _ (numsOf r) HL5.out HI'.out (numsOf_len HF.out) (wordK_len _) (HE.out.after HB5.out)).mono ?_
  rintro e w6 ⟨rfl, hb6⟩
  have HB6 : Hid (Below w.heap.size w w6) := HB5.out.trans (hb6.mono HB5.out.size)
  clear hb6 e1 ek x0
  go_wp2_with fail
  go_ret2
  exact ⟨by rw [HL.out]; rfl, HB6.out⟩
theorem Line_c (w : World) (v : Value) (r : Rec) (h : IsR w v r) (he : Env w) : Calls Tryz.prog 11 #[v] w (RetL w r) := by
  have hs := h.small
  by_cases hk0 : r.kind = 0
  · exact line0 w v r h he hk0 (fun hc => by have := ((canW_iff hs).1 hc).1.1.1; omega)
  by_cases hk6 : 6 ≤ r.kind
  · exact line6 w v r h he hk6 (fun hc => by have := ((canW_iff hs).1 hc).1.1.2; omega)
  by_cases hf : Fits r.steps r.after
  · exact lineS w v r h he (by omega) (by omega) hf
  · exact lineF0 w v r h he (by omega) (by omega) hf (fun hc => hf ((canW_iff hs).1 hc).1.2)
end Go.Proofs.YtpaoeeamlinaaaaGreatDoor

namespace Go.Proofs.YtpaoeeamlinaaaaGreatDoor
open Go.RowKit

/-- A slice of records. -/
def SlR (w : World) (v : Value) (rs : List Rec) : Prop := ∃ u : Nat → Value × Value, SlC w v rs.length 7 (fun i j => ((recV (rs.getD i Rec.none) (u i).1 (u i).2)[j]?).getD undef) ∧ ∀ i, i < rs.length → IsR w (.agg (recV (rs.getD i Rec.none) (u i).1 (u i).2)) (rs.getD i Rec.none)
theorem SlR.after {w w' : World} {v : Value} {rs : List Rec} (h : SlR w v rs) (hb : Below w.heap.size w w') : SlR w' v rs := by
  obtain ⟨u, h1, h2⟩ := h
  exact ⟨u, h1.after hb, fun i hi => (h2 i hi).after hb⟩
theorem numsOf_len2 {r : Rec} (h : Fits r.steps r.after) : (numsOf r).length ≤ 205 := by
  unfold numsOf
  split
  · obtain ⟨h1, h2, h3⟩ := h
    have h4 := flat_lists_len r.after (fun a ha => Nat.le_of_not_lt fun hl => h3 ⟨a, ha, hl⟩)
    unfold planned
    rw [List.length_cons, List.length_append, flat_steps_len]
    omega
  all_goals simp
theorem lineT_len {r : Rec} (h : CanW r) : (lineT r).length ≤ 2000 := by
  have hf : Fits r.steps r.after := ((canW_iff h.1.2).1 h).1.2
  have h1 := numsOf_len2 hf
  have h2 := spaced_len h.2
  have h3 := wordK_len r.kind
  have h4 := sum_digits (frontT r)
  have h5 : (frontT r).length ≤ 1900 := by unfold frontT; simp only [List.length_append, List.length_cons, List.length_nil]; omega
  unfold lineT
  simp only [List.length_append, List.length_cons, List.length_nil]
  omega
theorem lines_len : ∀ {rs : List Rec}, (∀ r ∈ rs, CanW r) → (rs.flatMap lineT).length ≤ 2000 * rs.length
  | [], _ => by simp
  | r :: rs, h => by
    have h1 := lineT_len (h r (by simp))
    have h2 := lines_len (fun x hx => h x (List.mem_cons_of_mem _ hx) : ∀ x ∈ rs, CanW x)
    simp only [List.flatMap_cons, List.length_append, List.length_cons]
    omega
theorem lines_take (rs : List Rec) (i : Nat) (hi : i < rs.length) : (rs.take (i + 1)).flatMap lineT = (rs.take i).flatMap lineT ++ lineT (rs.getD i Rec.none) := by
  rw [List.take_succ_eq_append_getElem hi, List.flatMap_append, List.getD_eq_getElem?_getD, List.getElem?_eq_getElem hi]
  simp
def RetLs (w : World) (rs : List Rec) (e : Ending) (w' : World) : Prop := e = .returned (.tuple #[.string (bs (linesF rs).1), .int .i64 (linesF rs).2]) ∧ Below w.heap.size w w'
theorem linesF_no {rs : List Rec} {i : Nat} (h4 : rs.length ≤ 400) (hi : i < rs.length) (h : ¬ CanW (rs.getD i Rec.none)) : linesF rs = ([], 1) := by
  unfold linesF
  rw [if_neg (by omega), if_neg]
  intro hall
  apply h
  rw [List.getD_eq_getElem?_getD, List.getElem?_eq_getElem hi]
  exact hall _ (List.getElem_mem hi)

set_option maxRecDepth 100000 in
set_option maxHeartbeats 2000000 in
theorem Lines_c (w : World) (v : Value) (rs : List Rec) (h : SlR w v rs) (he : Env w) : Calls Tryz.prog 20 #[v] w (RetLs w rs) := by
  obtain ⟨u, hu, hel⟩ := h
  obtain ⟨p, c, rfl, h1, h2, _⟩ := hu.shape
  by_cases h4 : 400 < rs.length
  · have HL : Hid (linesF rs = ([], 3)) := by show _ = _; unfold linesF; rw [if_pos h4]
    have q : decide (400 < (rs.length : Int)) = true := decide_eq_true (by omega)
    have q' : (400 : Int) < (rs.length : Int) := by omega
    clear h4 hu hel
    go_enter Tryz.func20, Tryz.ntmps20
    go_wp2_with fail
    go_ret2
    exact ⟨by rw [HL.out]; rfl, Below.refl _ _⟩
  have q : decide (400 < (rs.length : Int)) = false := decide_eq_false (by omega)
  have q' : ¬ (400 : Int) < (rs.length : Int) := by omega
  have h4' : rs.length ≤ 400 := by omega
  have H4 := Lib.hid h4'
  obtain ⟨W0, hW⟩ : ∃ W0, W0 = w.alloc (.cells #[.pointer none, .slice none 0 0] 75) := ⟨_, rfl⟩
  have hb0 : Below w.heap.size w W0 := by rw [hW]; exact held_alloc (Below.refl _ _)
  have hB : IsB W0 w.heap.size w.heap.size [] := by rw [hW]; exact IsB.new w (Nat.le_refl _)
  have HB := Lib.hid hB
  have HB0 := Lib.hid hb0
  have HU := Lib.hid hu
  have HEL := Lib.hid hel
  have HE := Lib.hid he
  have hz0 : w.heap.size ≤ W0.heap.size := hb0.size
  clear hu hel he hb0 hB h4 h4'
  go_enter Tryz.func20, Tryz.ntmps20
  go_upto_region 4 with fail
  rw [← hW]
  clear hW
  go_wp2_with fail
  go_loopg [14] rs.length (fun g t wx => ∃ i : Nat, i ≤ rs.length ∧ g = rs.length - i ∧ t = .int .i64 (i : Int) ∧ Hid (∀ r ∈ rs.take i, CanW r) ∧ Hid (IsB wx w.heap.size w.heap.size ((rs.take i).flatMap lineT)) ∧ Hid (Below w.heap.size w wx))
  case atStart => exact ⟨0, Nat.zero_le _, rfl, rfl, fun r hr => by simp at hr, HB.out, HB0.out⟩
  case round =>
    clear HB HB0
    obtain ⟨i, hi, rfl, rfl, hcan, hB, hbl⟩ := hrel
    have hsz := hbl.out.size
    by_cases hlt : i < rs.length
    · obtain ⟨ba, oa, ca, ea, _, _, la, hca⟩ := (HU.out.after hbl.out).at_ (by omega)
      injection ea with ea _ ec
      subst ea ec
      have HIR := Lib.hid ((HEL.out i hlt).after hbl.out)
      have HST := Lib.hid (lines_take rs i hlt)
      have HLI := Lib.hid (fun h => linesF_no (i := i) H4.out hlt h)
      have HTK : Hid (∀ x ∈ rs.take (i + 1), x ∈ rs.take i ∨ x = rs.getD i Rec.none) := fun x hx => by
        rw [List.take_succ_eq_append_getElem hlt] at hx
        rcases List.mem_append.1 hx with hx | hx
        · exact .inl hx
        · right
          rw [List.getD_eq_getElem?_getD, List.getElem?_eq_getElem hlt]
          exact List.mem_singleton.1 hx
      have HLN : Hid (((rs.take i).flatMap lineT).length ≤ 8000000) := by
        have h1 := lines_len hcan.out
        have h2 := H4.out
        rw [List.length_take] at h1
        show _ ≤ _
        have : min i rs.length ≤ 400 := by omega
        omega
      obtain ⟨r, hr⟩ : ∃ r, rs.getD i Rec.none = r := ⟨_, rfl⟩
      obtain ⟨vs, va, huv⟩ : ∃ vs va, u i = (vs, va) := ⟨_, _, rfl⟩
      have y0 : wr.cell? ⟨ba, oa + i * 7, none⟩ = some (.int .u8 (r.kind : Int)) := by have := hca i hlt 0 (by omega); rw [hr, huv] at this; exact this
      have y1 : wr.cell? ⟨ba, oa + i * 7 + 1, none⟩ = some (.int .i64 r.place) := by have := hca i hlt 1 (by omega); rw [hr, huv] at this; exact this
      have y2 : wr.cell? ⟨ba, oa + i * 7 + 2, none⟩ = some (.int .i64 r.id) := by have := hca i hlt 2 (by omega); rw [hr, huv] at this; exact this
      have y3 : wr.cell? ⟨ba, oa + i * 7 + 3, none⟩ = some (.int .i64 r.lease) := by have := hca i hlt 3 (by omega); rw [hr, huv] at this; exact this
      have y4 : wr.cell? ⟨ba, oa + i * 7 + 4, none⟩ = some (.int .u8 (r.ans : Int)) := by have := hca i hlt 4 (by omega); rw [hr, huv] at this; exact this
      have y5 : wr.cell? ⟨ba, oa + i * 7 + 5, none⟩ = some vs := by have := hca i hlt 5 (by omega); rw [hr, huv] at this; exact this
      have y6 : wr.cell? ⟨ba, oa + i * 7 + 6, none⟩ = some va := by have := hca i hlt 6 (by omega); rw [hr, huv] at this; exact this
      rw [hr, huv] at HIR
      rw [hr] at HST HLI HTK
      dsimp only at HIR
      clear hca hr huv
      obtain ⟨pS, cS, rfl⟩ : ∃ pS cS, vs = .slice pS r.steps.length cS := by
        obtain ⟨_, vs', va', e, k1, _⟩ := HIR.out
        injection e with e
        simp only [recV, Array.mk.injEq, List.cons.injEq] at e
        obtain ⟨_, _, _, _, _, e5, _⟩ := e
        obtain ⟨a, b, e', _⟩ := k1.2.shape
        exact ⟨a, b, e5.trans e'⟩
      obtain ⟨pL, cL, rfl⟩ : ∃ pL cL, va = .slice pL r.after.length cL := by
        obtain ⟨_, vs', va', e, _, k1⟩ := HIR.out
        injection e with e
        simp only [recV, Array.mk.injEq, List.cons.injEq] at e
        obtain ⟨_, _, _, _, _, _, e6, _⟩ := e
        obtain ⟨_, k2, _⟩ := k1
        obtain ⟨a, b, e', _⟩ := k2.shape
        exact ⟨a, b, e6.trans e'⟩
      have il : (i : Int) < (rs.length : Int) := by omega
      have i0 : (0 : Int) ≤ (i : Int) := by omega
      obtain ⟨W1, hW1⟩ : ∃ W1, W1 = wr.alloc (.cells #[.int .u8 (r.kind : Int), .int .i64 r.place, .int .i64 r.id, .int .i64 r.lease, .int .u8 (r.ans : Int), .slice pS r.steps.length cS, .slice pL r.after.length cL] 29) := ⟨_, rfl⟩
      have hb1 : Below wr.heap.size wr W1 := by rw [hW1]; exact held_alloc (Below.refl _ _)
      have hx1 : Box W1 wr.heap.size #[.int .u8 (r.kind : Int), .int .i64 r.place, .int .i64 r.id, .int .i64 r.lease, .int .u8 (r.ans : Int), .slice pS r.steps.length cS, .slice pL r.after.length cL] 29 := by rw [hW1]; exact Box.new _ _ _
      have HB1 : Hid (Below w.heap.size w W1) := hbl.out.trans (hb1.mono hsz)
      have HIS1 := Lib.hid (hB.out.after hb1)
      have HIR1 := Lib.hid (HIR.out.after hb1)
      have HX1 := Lib.hid hx1
      clear hb1 hx1
      go_upto_region 7 with fail
      rw [← hW1]
      clear hW1 y0 y1 y2 y3 y4 y5 y6
      have x0 : W1.cell? ⟨wr.heap.size, 0, none⟩ = some (.int .u8 (r.kind : Int)) := HX1.out.cell 0
      have x1 : W1.cell? ⟨wr.heap.size, 1, none⟩ = some (.int .i64 r.place) := HX1.out.cell 1
      have x2 : W1.cell? ⟨wr.heap.size, 2, none⟩ = some (.int .i64 r.id) := HX1.out.cell 2
      have x3 : W1.cell? ⟨wr.heap.size, 3, none⟩ = some (.int .i64 r.lease) := HX1.out.cell 3
      have x4 : W1.cell? ⟨wr.heap.size, 4, none⟩ = some (.int .u8 (r.ans : Int)) := HX1.out.cell 4
      have x5 : W1.cell? ⟨wr.heap.size, 5, none⟩ = some (.slice pS r.steps.length cS) := HX1.out.cell 5
      have x6 : W1.cell? ⟨wr.heap.size, 6, none⟩ = some (.slice pL r.after.length cL) := HX1.out.cell 6
      have xl := HX1.out.lt
      have hsz1 := HB1.out.size
      go_wp2_with fail
      refine (Line_c W1 _ r HIR1.out (HE.out.after HB1.out)).mono ?_
      by_cases hc : CanW r
      · have HC := Lib.hid hc
        clear hc
        unfold RetL
        rw [show lineF r = (lineT r, 0) from by unfold lineF; rw [if_pos HC.out]]
        rintro e w2 ⟨rfl, hb2⟩
        have HB2 : Hid (Below w.heap.size w w2) := HB1.out.trans (hb2.mono hsz1)
        have HIS2 := Lib.hid (HIS1.out.after hb2)
        clear hb2 x0 x1 x2 x3 x4 x5 x6 xl
        dsimp only
        obtain ⟨lt, hlt2⟩ : ∃ lt, lineT r = lt := ⟨_, rfl⟩
        have HLT := Lib.hid hlt2
        rw [hlt2]
        clear hlt2
        go_wp2_with fail
        refine (write_c w.heap.size w.heap.size _ lt w2 HIS2.out (by have h1 := lineT_len HC.out; have h2 := HLN.out; rw [HLT.out] at h1; omega) HB2.out.size).mono ?_
        rintro e w3 ⟨rfl, hB3, hb3⟩
        have HIS3 := Lib.hid hB3
        have HB3 : Hid (Below w.heap.size w w3) := HB2.out.trans hb3
        clear hB3 hb3
        go_wp2_with fail
        go_roundg (rs.length - (i + 1))
        case measure => omega
        case rel =>
          refine ⟨i + 1, by omega, rfl, by go_num, fun x hx => ?_, ?_, HB3.out⟩
          · rcases HTK.out x hx with h | h
            · exact hcan.out x h
            · rw [h]; exact HC.out
          · rw [HST.out, HLT.out]; exact HIS3.out
      · have HL := Lib.hid (HLI.out hc)
        have HLF := Lib.hid (lineF_no hc)
        clear hc
        unfold RetL
        rw [HLF.out]
        rintro e w2 ⟨rfl, hb2⟩
        have HB2 : Hid (Below w.heap.size w w2) := HB1.out.trans (hb2.mono hsz1)
        clear hb2 x0 x1 x2 x3 x4 x5 x6 xl
        dsimp only
        go_wp2_with fail
        go_ret2
        exact ⟨by rw [HL.out]; rfl, HB2.out⟩
    · obtain rfl : i = rs.length := by omega
      have HC : Hid (∀ r ∈ rs, CanW r) := by have := hcan.out; rw [List.take_length] at this; exact this
      have HIS : Hid (IsB wr w.heap.size w.heap.size (rs.flatMap lineT)) := by have := hB.out; rw [List.take_length] at this; exact this
      have HL : Hid (linesF rs = (rs.flatMap lineT, 0)) := by show _ = _; unfold linesF; rw [if_neg (by have := H4.out; omega), if_pos HC.out]
      clear hcan hB hlt
      go_wp2_with fail
      refine (string_c w.heap.size w.heap.size _ wr HIS.out hsz).mono ?_
      rintro e w2 ⟨rfl, _, hb2⟩
      have HB2 : Hid (Below w.heap.size w w2) := hbl.out.trans hb2
      clear hb2
      go_wp2_with fail
      go_ret2
      exact ⟨by rw [HL.out]; rfl, HB2.out⟩
end Go.Proofs.YtpaoeeamlinaaaaGreatDoor

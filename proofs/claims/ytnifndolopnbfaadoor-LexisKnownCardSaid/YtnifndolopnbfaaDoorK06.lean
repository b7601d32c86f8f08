/- Walks of package lexis: Print.
   Walks of the reference of lexis: classes of bytes, ends of names and numbers, the number of digits, what is skipped.
   Walks of the reference of lexis: the number of digits; what is skipped.
   Walks of the reference of lexis: the token at an offset. -/
import Derived.Test.YtnifndolopnbfaaDoorK04
import Derived.Test.YtnifndolopnbfaaDoorK05
import Derived.Deep.DeepCutAuto
import Derived.Test.YtnifndolopnbfaaDoorK03
import Derived.Test.YtnifndolopnbfaaDoorK02
import Derived.StillTailTactics
set_option linter.unusedVariables false
namespace Go.Proofs.YtnifndolopnbfaaDoor
open Go.RowKit

/-- Block S is a row of n strings, of which the first k are written. -/
def RowS (W : World) (S n k : Nat) (ts : List Tok) : Prop := ∃ cs : Array Value, Box W S cs 9 ∧ cs.size = n ∧ (∀ j : Nat, j < n → ∃ s, cs[j]? = some (.string s)) ∧ ∀ j : Nat, j < k → cs[j]? = some (.string (bs (tok ts j).text))
theorem RowS.after {W W' : World} {S n k : Nat} {ts : List Tok} (h : RowS W S n k ts) (hb : Below W.heap.size W W') : RowS W' S n k ts := by
  obtain ⟨cs, h1, h2, h3, h4⟩ := h
  exact ⟨cs, h1.after hb, h2, h3, h4⟩
theorem RowS.cell {W : World} {S n k : Nat} {ts : List Tok} (h : RowS W S n k ts) {j : Nat} (hj : j < n) : ∃ s, W.cell? ⟨S, j, none⟩ = some (.string s) := by
  obtain ⟨cs, h1, h2, h3, h4⟩ := h
  obtain ⟨s, hs⟩ := h3 j hj
  exact ⟨s, by rw [h1.cell]; exact hs⟩
theorem RowS.lt {W : World} {S n k : Nat} {ts : List Tok} (h : RowS W S n k ts) : S < W.heap.size := by
  obtain ⟨cs, h1, _⟩ := h
  exact h1.lt
theorem RowS.frozen {W : World} {S n k : Nat} {ts : List Tok} (h : RowS W S n k ts) (i : Nat) : W.frozen? ⟨S, i, none⟩ = false := by
  obtain ⟨cs, h1, _⟩ := h
  exact h1.frozen i
theorem RowS.set {W : World} {S n k : Nat} {ts : List Tok} (h : RowS W S n k ts) (hk : k < n) : RowS (W.setCell ⟨S, k, none⟩ (.string (bs (tok ts k).text))) S n (k + 1) ts := by
  obtain ⟨cs, h1, h2, h3, h4⟩ := h
  refine ⟨_, h1.set k _, by simp [h2], fun j hj => ?_, fun j hj => ?_⟩
  · by_cases e : k = j
    · subst e
      exact ⟨_, by rw [Array.getElem?_setIfInBounds_self_of_lt (by omega)]⟩
    · obtain ⟨s, hs⟩ := h3 j hj
      exact ⟨s, by rw [Array.getElem?_setIfInBounds_ne e]; exact hs⟩
  · by_cases e : k = j
    · subst e
      rw [Array.getElem?_setIfInBounds_self_of_lt (by omega)]
    · rw [Array.getElem?_setIfInBounds_ne e]
      exact h4 j (by omega)
theorem RowS.new (w : World) (n : Nat) (ts : List Tok) : RowS (w.alloc (.cells (madeCells #[Value.string ⟨#[]⟩] n) 9)) w.heap.size n 0 ts := by
  refine ⟨_, Box.new w _ _, by simp [madeCells], fun j hj => ⟨⟨#[]⟩, ?_⟩, fun j hj => by omega⟩
  simp [madeCells, hj, Nat.mod_one]
theorem run_makeS (n : Nat) (hn : n ≤ 1000000) : ∀ w : World, (Instr.makeSlice 36 (.int .i64 (n : Int)) (.int .i64 (n : Int))).run Tryd.prog w =
    .ok (.slice (some ⟨w.heap.size, 0, none⟩) n n) (w.alloc (.cells (madeCells #[Value.string ⟨#[]⟩] n) 9)) :=
  run_make_row' (P := Tryd.prog) 36 9 (.string ⟨#[]⟩) 16 Tryd.underlying36 (by kernel_rfl) rfl .i64 .i64 n (by omega) (by omega)

set_option maxRecDepth 100000 in
set_option maxHeartbeats 4000000 in
theorem Print_c (w : World) (v : Value) (ts : List Tok) (h : SlK w v ts) (hn : ts.length ≤ 1000000) : Calls Tryd.prog 14 #[v] w fun e w' => e = .returned (.tuple #[.string (bs (printF ts).1), .int .i64 (((printF ts).2 : Nat) : Int)]) ∧ Below w.heap.size w w' := by
  have H := Lib.hid h
  obtain ⟨a, c, rfl, h1, h2, _⟩ := h.shape
  clear h
  obtain ⟨n, hN⟩ : ∃ n, ts.length = n := ⟨_, rfl⟩
  have hmk := run_makeS ts.length hn
  rw [hN] at h1 hn hmk ⊢
  have HN := Lib.hid hN
  rw [hN] at H
  clear hN
  go_enter Tryd.func14, Tryd.ntmps14
  go_upto_region 3 with fail
  obtain ⟨W1, hW1⟩ : ∃ W1, W1 = w.alloc (.cells (madeCells #[Value.string ⟨#[]⟩] n) 9) := ⟨_, rfl⟩
  have HR1 : Hid (RowS W1 w.heap.size n 0 ts) := hW1 ▸ RowS.new w n ts
  have HB1 : Hid (Below w.heap.size w W1) := hW1 ▸ held_alloc (Below.refl _ w)
  rw [← hW1]
  clear hW1 hmk
  go_wp2_with fail
  go_loopw [4, 17] (fun sz t wx => ∃ k : Nat, k ≤ n ∧ sz = .int .i64 ((n - 1 + sumT ts k : Nat) : Int) ∧ t = .int .i64 k ∧ Hid (RowS wx w.heap.size n k ts) ∧ Hid (Below w.heap.size w wx) ∧ Hid (∀ j (h : j < ts.length), j < k → rightT ts[j])) (fun _ t _ => n - (intOf t).toNat)
  case atStart =>
    refine ⟨0, Nat.zero_le _, ?_, rfl, HR1.out, HB1.out, fun j _ h => by omega⟩
    rw [sumT_zero]
    congr 1
    omega
  case round =>
    obtain ⟨k, hk, rfl, rfl, hrow, hb, hr⟩ := hrel
    have hsum : sumT ts k ≤ 12 * k := sumT_small (by rw [HN.out]; exact hk) hr.out
    by_cases hlt : k < n
    · have hkl : k < ts.length := by rw [HN.out]; exact hlt
      have hnext := sumT_next hkl
      have hgt := tok_get hkl
      obtain ⟨b, off, cap, e, _, _, hblt, hc⟩ := (H.out.after hb.out).at_ (by omega)
      injection e with e1 e2 e3
      clear e2
      subst e1
      subst e3
      obtain ⟨a0, a1, a2, a3⟩ := hc k hkl
      have hok := H.out.ok hkl
      have hset : Hid (∀ W, RowS W w.heap.size n k ts → RowS (W.setCell ⟨w.heap.size, k, none⟩ (.string (bs (tok ts k).text))) w.heap.size n (k + 1) ts) := fun W h => h.set hlt
      obtain ⟨S, hS⟩ : ∃ S, sumT ts k = S := ⟨_, rfl⟩
      rw [hS] at hsum hnext ⊢
      rw [← hgt] at hnext
      by_cases hrt : rightT (tok ts k)
      · have HRT : Hid (rightT ts[k]) := by rw [hgt] at hrt; exact hrt
        have hdec : Hid (decide (rightT (tok ts k)) = true) := decide_eq_true hrt
        have hx12 := rightT_len hrt
        obtain ⟨⟨kk, xx, nn, oo⟩, ht⟩ : ∃ t, tok ts k = t := ⟨_, rfl⟩
        rw [ht] at a0 a1 a2 a3 hdec hok hset hnext hx12
        have HNX := Lib.hid hnext
        have HOK := Lib.hid hok
        have hxs : (bs xx).size = xx.length := bs_size xx
        have hx13 : xx.length ≤ 12 := hx12
        clear hc hok hgt hrt ht hS hnext hx12
        go_upto_region 6 with fail
        obtain ⟨w3, hw3⟩ : ∃ w3, w3 = wr.alloc (.cells #[.int .u8 (kk : Int), .string (bs xx), .int .i64 nn, .int .i64 oo] 34) := ⟨_, rfl⟩
        have hb3 : Below wr.heap.size wr w3 := hw3 ▸ held_alloc (Below.refl _ wr)
        have bx : Box w3 wr.heap.size #[.int .u8 (kk : Int), .string (bs xx), .int .i64 nn, .int .i64 oo] 34 := hw3 ▸ Box.new wr _ _
        rw [← hw3]
        clear hw3 a0 a1 a2 a3
        obtain ⟨c0, c1, c2, c3⟩ := bx.cells4
        have BX := Lib.hid bx
        have HR3 := Lib.hid (hrow.out.after hb3)
        have HB3 := Lib.hid (hb.out.trans (hb3.mono hb.out.size))
        have hlt3 := bx.lt
        have hlS := hrow.out.lt
        clear hb3 bx
        go_wp2_with fail
        refine (right_c ⟨kk, xx, nn, oo⟩ w3 HOK.out HOK.out.2.2.2).mono ?_
        rw [hdec.out]
        rintro e w4 ⟨rfl, hb4⟩
        obtain ⟨c0, c1, c2, c3⟩ := (BX.out.after hb4).cells4
        have HR4 := Lib.hid (HR3.out.after hb4)
        have HB4 := Lib.hid (HB3.out.trans (hb4.mono HB3.out.size))
        have hlt4 := (BX.out.after hb4).lt
        obtain ⟨s0, hs0⟩ := HR4.out.cell hlt
        have fS := HR4.out.frozen k
        have HS5 : Hid (RowS (w4.setCell ⟨w.heap.size, k, none⟩ (.string (bs xx))) w.heap.size n (k + 1) ts) := hset.out _ HR4.out
        have HB5 : Hid (Below w.heap.size w (w4.setCell ⟨w.heap.size, k, none⟩ (.string (bs xx)))) := HB4.out.setCell (p := ⟨w.heap.size, k, none⟩) (Nat.le_refl _) _
        clear hb4
        go_wp2_with fail
        go_roundw
        case rel =>
          refine ⟨k + 1, by omega, ?_, by go_num, HS5.out, HB5.out, fun j h hj => ?_⟩
          · rw [HNX.out]; congr 1; push_cast; omega
          · rcases Nat.lt_or_ge j k with h1 | h1
            · exact hr.out j h h1
            · obtain rfl : j = k := by omega
              exact HRT.out
        case measure => simp [intOf]; omega
      · have hdec : Hid (decide (rightT (tok ts k)) = false) := decide_eq_false hrt
        have hfin : Hid (printF ts = ([], 1)) := printF_bad (List.getElem_mem hkl) (by rw [hgt] at hrt; exact hrt)
        obtain ⟨⟨kk, xx, nn, oo⟩, ht⟩ : ∃ t, tok ts k = t := ⟨_, rfl⟩
        rw [ht] at a0 a1 a2 a3 hdec hok
        have HOK := Lib.hid hok
        clear hc hok hgt hrt ht hS hnext hset
        go_upto_region 6 with fail
        obtain ⟨w3, hw3⟩ : ∃ w3, w3 = wr.alloc (.cells #[.int .u8 (kk : Int), .string (bs xx), .int .i64 nn, .int .i64 oo] 34) := ⟨_, rfl⟩
        have hb3 : Below wr.heap.size wr w3 := hw3 ▸ held_alloc (Below.refl _ wr)
        have bx : Box w3 wr.heap.size #[.int .u8 (kk : Int), .string (bs xx), .int .i64 nn, .int .i64 oo] 34 := hw3 ▸ Box.new wr _ _
        rw [← hw3]
        clear hw3 a0 a1 a2 a3
        obtain ⟨c0, c1, c2, c3⟩ := bx.cells4
        have BX := Lib.hid bx
        have HR3 := Lib.hid (hrow.out.after hb3)
        have HB3 := Lib.hid (hb.out.trans (hb3.mono hb.out.size))
        have hlt3 := bx.lt
        have hlS := hrow.out.lt
        clear hb3 bx
        go_wp2_with fail
        refine (right_c ⟨kk, xx, nn, oo⟩ w3 HOK.out HOK.out.2.2.2).mono ?_
        rw [hdec.out]
        rintro e w4 ⟨rfl, hb4⟩
        have HB4 := Lib.hid (HB3.out.trans (hb4.mono HB3.out.size))
        clear hb4
        go_wp2_with fail
        go_ret2
        rw [hfin.out]
        exact ⟨rfl, HB4.out⟩
    · obtain rfl : k = n := by omega
      have hall : ∀ t ∈ ts, rightT t := fun t ht => by
        obtain ⟨j, hj, rfl⟩ := List.getElem_of_mem ht
        exact hr.out j hj (by rw [← HN.out]; exact hj)
      have hjl : (joinL [32] (ts.map Tok.text)).length = k - 1 + sumT ts k := by
        have h1 := joinL_len [32] (ts.map Tok.text)
        have h2 := sumT_all ts
        rw [HN.out] at h2
        rw [h1, h2, List.length_map, HN.out]
        unfold txts
        simp
      obtain ⟨S, hS⟩ : ∃ S, sumT ts k = S := ⟨_, rfl⟩
      rw [hS] at hsum hjl ⊢
      by_cases hlong : 4096 < k - 1 + S
      · have hfin : Hid (printF ts = ([], 3)) := printF_long hall (by rw [hjl]; exact hlong)
        clear hall hjl hS
        go_wp2_with fail
        go_ret2
        rw [hfin.out]
        exact ⟨rfl, hb.out⟩
      · have hfin : Hid (printF ts = (joinL [32] (ts.map Tok.text), 0)) := printF_ok hall (by rw [hjl]; exact hlong)
        have HJL := Lib.hid hjl
        obtain ⟨cs, r1, r2, r3, r4⟩ := hrow.out
        have hxl : (ts.map fun t => bs t.text).length = k := by rw [List.length_map, HN.out]
        have hjs : ((ts.map fun t => bs t.text).map (·.data.toList)) = ts.map Tok.text := by rw [List.map_map]; exact List.map_congr_left (fun t _ => rfl)
        have hcells : ∀ (j : Nat) x, (ts.map fun t => bs t.text)[j]? = some x → wr.cell? ⟨w.heap.size, 0 + j, none⟩ = some (.string x) := by
          intro j x hx
          rw [List.getElem?_map] at hx
          obtain ⟨t, ht, rfl⟩ := Option.map_eq_some_iff.1 hx
          have hj : j < ts.length := (List.getElem?_eq_some_iff.1 ht).1
          rw [Nat.zero_add, r1.cell, r4 j (by rw [← HN.out]; exact hj), tok_get hj]
          rw [List.getElem?_eq_getElem hj] at ht
          injection ht with ht
          rw [ht]
        have hjoin := Tryd.strings_Join w.heap.size 0 k (ts.map fun t => bs t.text) (bs [32]) wr hcells r1.lt (by rw [hxl]; omega) (by rw [hxl]; exact Nat.le_refl _) (by
          rw [hjs]
          show (Lib.join _ [32]).length ≤ _
          rw [← joinL_lib, hjl]; omega)
        rw [hjs, hxl] at hjoin
        have HJ : Hid (Calls Tryd.prog 22 #[.slice (some ⟨w.heap.size, 0, none⟩) k k, .string (bs [32])] wr fun e w' => e = .returned (.string (bs (joinL [32] (ts.map Tok.text)))) ∧ Below wr.heap.size wr w') := by
          rw [joinL_lib]; exact hjoin
        clear hall hjl hS r1 r2 r3 r4 hxl hjs hcells hjoin
        go_wp2_with fail
        refine HJ.out.mono ?_
        rintro e w3 ⟨rfl, hb3⟩
        have HB3 := Lib.hid (hb.out.trans (hb3.mono hb.out.size))
        clear hb3
        go_wp2_with fail
        go_ret2
        rw [hfin.out]
        exact ⟨rfl, HB3.out⟩
end Go.Proofs.YtnifndolopnbfaaDoor

namespace Go.Proofs.YtnifndolopnbfaaDoor
open Go.RowKit

theorem rletter_c (c : UInt8) (w : World) : Calls Tryd.prog 28 #[.int .u8 (c.toNat : Int)] w fun e w' => e = .returned (.bool (isLet c)) ∧ w = w' := by
  go_enter Tryd.func28, Tryd.ntmps28
  go_wp2
  all_goals
    go_ret
    exact ⟨ret_bool (by unfold isLet; first | (symm; apply decide_eq_true; omega) | (symm; apply decide_eq_false; omega) | (apply decide_eq_decide.2; omega)), rfl⟩
theorem rdigit_c (c : UInt8) (w : World) : Calls Tryd.prog 30 #[.int .u8 (c.toNat : Int)] w fun e w' => e = .returned (.bool (isDig c)) ∧ w = w' := by
  go_enter Tryd.func30, Tryd.ntmps30
  go_wp2
  all_goals
    go_ret
    exact ⟨ret_bool (by unfold isDig; first | (symm; apply decide_eq_true; omega) | (symm; apply decide_eq_false; omega) | (apply decide_eq_decide.2; omega)), rfl⟩
theorem rblank_c (c : UInt8) (w : World) : Calls Tryd.prog 27 #[.int .u8 (c.toNat : Int)] w fun e w' => e = .returned (.bool (isBlk c)) ∧ w = w' := by
  have e0 : ((c.toNat : Int) == 32) = decide (c.toNat = 32) := beq_lit _ 32
  have e1 : ((c.toNat : Int) == 9) = decide (c.toNat = 9) := beq_lit _ 9
  have e2 : ((c.toNat : Int) == 13) = decide (c.toNat = 13) := beq_lit _ 13
  have e3 : ((c.toNat : Int) == 10) = decide (c.toNat = 10) := beq_lit _ 10
  go_enter Tryd.func27, Tryd.ntmps27
  go_wp2
  all_goals
    go_ret
    refine ⟨ret_bool ?_, rfl⟩
    unfold isBlk
    rw [Bool.eq_iff_iff]
    simp at *
    omega
theorem drop_next {l : List UInt8} {k : Nat} (h : k < l.length) : l.drop k = l[k] :: l.drop (k + 1) := List.drop_eq_getElem_cons h
theorem runN_next {p : UInt8 → Bool} {l : List UInt8} {k : Nat} (h : k < l.length) (hp : p l[k] = true) : runN p (l.drop k) = runN p (l.drop (k + 1)) + 1 := by
  rw [drop_next h, runN_pos _ _ _ hp]
theorem runN_here {p : UInt8 → Bool} {l : List UInt8} {k : Nat} (h : k < l.length) (hp : p l[k] = false) : runN p (l.drop k) = 0 := by
  rw [drop_next h, runN_zero _ _ _ hp]
theorem runN_end (p : UInt8 → Bool) (l : List UInt8) : runN p (l.drop l.length) = 0 := by rw [List.drop_length]; rfl

set_option maxHeartbeats 1000000 in
theorem rnumberEnd_c (l : List UInt8) (i : Nat) (hi : i ≤ l.length) (w : World) (hl : l.length ≤ 9223372036854775807) :
    Calls Tryd.prog 31 #[.string (bs l), .int .i64 (i : Int)] w fun e w' => e = .returned (.int .i64 ((i + runN isDig (l.drop i) : Nat) : Int)) ∧ w = w' := by
  have hs : (bs l).size = l.length := bs_size l
  obtain ⟨N, hN⟩ : ∃ N, i + runN isDig (l.drop i) = N := ⟨_, rfl⟩
  rw [hN]
  have HN := Lib.hid hN
  clear hN
  go_enter Tryd.func31, Tryd.ntmps31
  go_wp2_with fail
  go_loop [1] (fun t => ∃ k : Nat, k ≤ l.length ∧ t = .int .i64 (k : Int) ∧ Hid (k + runN isDig (l.drop k) = N)) (fun t => l.length - (intOf t).toNat)
  case atStart => exact ⟨i, hi, rfl, HN.out⟩
  case round =>
    obtain ⟨k, hk, rfl, hr⟩ := hrel
    clear HN
    by_cases hlt : k < l.length
    · have hget : (bs l)[k]'hlt = l[k] := rfl
      have hd : decide ((k : Int) < (l.length : Int)) = true := decide_eq_true (by omega)
      cases hp : isDig l[k]
      · have hz : Hid (N = k) := by
          have := hr.out
          rw [runN_here hlt hp] at this
          exact this.symm
        go_wp2_with (go_at_call 30; refine (rdigit_c l[k] _).mono ?_; rintro e w' ⟨rfl, rfl⟩; rw [hp])
        go_ret
        exact ⟨ret_int (by rw [hz.out]), rfl⟩
      · have hz : Hid (k + 1 + runN isDig (l.drop (k + 1)) = N) := by
          have := hr.out
          rw [runN_next hlt hp] at this
          show _ = _
          omega
        go_wp2_with (go_at_call 30; refine (rdigit_c l[k] _).mono ?_; rintro e w' ⟨rfl, rfl⟩; rw [hp])
        go_round
        case rel => exact ⟨k + 1, by omega, by go_num, hz.out⟩
        case measure => simp [intOf]; omega
    · obtain rfl : k = l.length := by omega
      have hz : Hid (N = l.length) := by
        have := hr.out
        rw [runN_end] at this
        exact this.symm
      go_wp2_with fail
      go_ret
      exact ⟨ret_int (by rw [hz.out]), rfl⟩
set_option maxHeartbeats 1000000 in
theorem rnameEnd_c (l : List UInt8) (i : Nat) (hi : i ≤ l.length) (w : World) (hl : l.length ≤ 9223372036854775807) :
    Calls Tryd.prog 29 #[.string (bs l), .int .i64 (i : Int)] w fun e w' => e = .returned (.int .i64 ((i + runN isIns (l.drop i) : Nat) : Int)) ∧ w = w' := by
  have hs : (bs l).size = l.length := bs_size l
  obtain ⟨N, hN⟩ : ∃ N, i + runN isIns (l.drop i) = N := ⟨_, rfl⟩
  rw [hN]
  have HN := Lib.hid hN
  clear hN
  go_enter Tryd.func29, Tryd.ntmps29
  go_wp2_with fail
  go_loop [1] (fun t => ∃ k : Nat, k ≤ l.length ∧ t = .int .i64 (k : Int) ∧ Hid (k + runN isIns (l.drop k) = N)) (fun t => l.length - (intOf t).toNat)
  case atStart => exact ⟨i, hi, rfl, HN.out⟩
  case round =>
    obtain ⟨k, hk, rfl, hr⟩ := hrel
    clear HN
    by_cases hlt : k < l.length
    · have hget : (bs l)[k]'hlt = l[k] := rfl
      have hd : decide ((k : Int) < (l.length : Int)) = true := decide_eq_true (by omega)
      by_cases hp : isIns l[k] = true
      · have hz : Hid (k + 1 + runN isIns (l.drop (k + 1)) = N) := by
          have := hr.out
          rw [runN_next hlt hp] at this
          show _ = _
          omega
        have HP := Lib.hid hp
        clear hp
        cases h1 : isLet l[k] <;> cases h2 : isDig l[k]
        · have h3 : ((((bs l)[k]'hlt).toNat : Int) == 45) = true := (beq_lit l[k].toNat 45).trans (by
            have := HP.out
            unfold isIns at this
            rw [h1, h2] at this
            simpa using this)
          go_wp2_with (first
            | (go_at_call 30; refine (rdigit_c l[k] _).mono ?_; rintro e w' ⟨rfl, rfl⟩; rw [h2])
            | (go_at_call 28; refine (rletter_c l[k] _).mono ?_; rintro e w' ⟨rfl, rfl⟩; rw [h1]))
          go_round
          case rel => exact ⟨k + 1, by omega, by go_num, hz.out⟩
          case measure => simp [intOf]; omega
        all_goals
          go_wp2_with (first
            | (go_at_call 30; refine (rdigit_c l[k] _).mono ?_; rintro e w' ⟨rfl, rfl⟩; rw [h2])
            | (go_at_call 28; refine (rletter_c l[k] _).mono ?_; rintro e w' ⟨rfl, rfl⟩; rw [h1]))
          go_round
          case rel => exact ⟨k + 1, by omega, by go_num, hz.out⟩
          case measure => simp [intOf]; omega
      · have hp' : isIns l[k] = false := by simpa using hp
        have hz : Hid (N = k) := by
          have := hr.out
          rw [runN_here hlt hp'] at this
          exact this.symm
        have h1 : isLet l[k] = false := by unfold isIns at hp'; simp at hp'; exact hp'.1.1
        have h2 : isDig l[k] = false := by unfold isIns at hp'; simp at hp'; exact hp'.1.2
        have h3 : ((((bs l)[k]'hlt).toNat : Int) == 45) = false := (beq_lit l[k].toNat 45).trans (by
          unfold isIns at hp'
          rw [h1, h2] at hp'
          simpa using hp')
        clear hp hp'
        go_wp2_with (first
          | (go_at_call 30; refine (rdigit_c l[k] _).mono ?_; rintro e w' ⟨rfl, rfl⟩; rw [h2])
          | (go_at_call 28; refine (rletter_c l[k] _).mono ?_; rintro e w' ⟨rfl, rfl⟩; rw [h1]))
        go_ret
        exact ⟨ret_int (by rw [hz.out]), rfl⟩
    · obtain rfl : k = l.length := by omega
      have hz : Hid (N = l.length) := by
        have := hr.out
        rw [runN_end] at this
        exact this.symm
      go_wp2_with fail
      go_ret
      exact ⟨ret_int (by rw [hz.out]), rfl⟩
end Go.Proofs.YtnifndolopnbfaaDoor

namespace Go.Proofs.YtnifndolopnbfaaDoor
open Go.RowKit

theorem take_next {l : List UInt8} {k : Nat} (h : k < l.length) : l.take (k + 1) = l.take k ++ [l[k]] := List.take_succ_eq_append_getElem h
theorem numV_next {l : List UInt8} {k : Nat} (h : k < l.length) : numV (l.take (k + 1)) = 10 * numV (l.take k) + (l[k].toNat - 48) := by rw [take_next h, numV_snoc]
theorem numV_small {l : List UInt8} (hd : ∀ c ∈ l, isDig c = true) (hl : l.length ≤ 9) (k : Nat) : numV (l.take k) < 1000000000 := by
  have h1 := numV_lt (l.take k) (fun c hc => hd c (List.mem_of_mem_take hc))
  have h2 : (l.take k).length ≤ 9 := by rw [List.length_take]; omega
  have h3 : 10 ^ (l.take k).length ≤ 10 ^ 9 := Nat.pow_le_pow_right (by omega) h2
  omega
set_option maxHeartbeats 1000000 in
theorem rValue_c (l : List UInt8) (hd : ∀ c ∈ l, isDig c = true) (hl9 : l.length ≤ 9) (w : World) :
    Calls Tryd.prog 32 #[.string (bs l)] w fun e w' => e = .returned (.int .i64 ((numV l : Nat) : Int)) ∧ w = w' := by
  have hs : (bs l).size = l.length := bs_size l
  have HD := Lib.hid hd
  clear hd
  go_enter Tryd.func32, Tryd.ntmps32
  go_wp2_with fail
  go_loop [3, 4] (fun v t => ∃ (k a : Nat), k ≤ l.length ∧ t = .int .i64 (k : Int) ∧ v = .int .i64 (a : Int) ∧ Hid (numV (l.take k) = a)) (fun _ t => l.length - (intOf t).toNat)
  case atStart => exact ⟨0, 0, Nat.zero_le _, rfl, rfl, rfl⟩
  case round =>
    obtain ⟨k, a, hk, rfl, rfl, hr⟩ := hrel
    have hsm : a < 1000000000 := by rw [← hr.out]; exact numV_small HD.out hl9 k
    by_cases hlt : k < l.length
    · have hget : (bs l)[k]'hlt = l[k] := rfl
      have hdg : 48 ≤ l[k].toNat ∧ l[k].toNat ≤ 57 := of_decide_eq_true (HD.out _ (List.getElem_mem hlt))
      have hz : Hid (numV (l.take (k + 1)) = 10 * a + (l[k].toNat - 48)) := by show _ = _; rw [numV_next hlt, hr.out]
      obtain ⟨q, hq⟩ : ∃ q, ((bs l)[k]'hlt).toNat = q := ⟨_, rfl⟩
      have hq' : l[k].toNat = q := hq
      rw [hq'] at hdg hz
      clear hq' hget
      obtain ⟨d1, d2⟩ := hdg
      go_wp2_with fail
      go_round
      case rel => exact ⟨k + 1, 10 * a + (q - 48), by omega, by go_num, by go_num, hz.out⟩
      case measure => simp [intOf]; omega
    · obtain rfl : k = l.length := by omega
      have hz : Hid (numV l = a) := by have := hr.out; rw [List.take_length] at this; exact this
      go_wp2_with fail
      go_ret
      exact ⟨ret_int (by rw [hz.out]), rfl⟩
/-- How many bytes of an open remark, and of what is idle behind it, there are. -/
def idleT (l : List UInt8) : Nat := l.length - (skp true l).length
theorem idleN_nil : idleN [] = 0 := rfl
theorem idleT_nil : idleT [] = 0 := rfl
theorem idleN_blk {c : UInt8} (h : isBlk c = true) (l : List UInt8) : idleN (c :: l) = idleN l + 1 := by
  have := skp_len false l
  unfold idleN; rw [skp_blk h, List.length_cons]; omega
theorem idleN_hash {c : UInt8} (h : c.toNat = 35) (l : List UInt8) : idleN (c :: l) = idleT (c :: l) := by
  unfold idleN idleT; rw [skp_hash h, skp, if_neg (by omega)]
theorem idleN_stop {c : UInt8} (h : isBlk c = false) (h2 : c.toNat ≠ 35) (l : List UInt8) : idleN (c :: l) = 0 := by
  unfold idleN; rw [skp_stop h h2]; omega
theorem idleT_go {c : UInt8} (h : c.toNat ≠ 10) (l : List UInt8) : idleT (c :: l) = idleT l + 1 := by
  have := skp_len true l
  unfold idleT; rw [skp, if_neg h, List.length_cons]; omega
theorem idleT_line {c : UInt8} (h : c.toNat = 10) (l : List UInt8) : idleT (c :: l) = idleN (c :: l) := by
  unfold idleT idleN; rw [skp, if_pos h, skp_blk (by simp [isBlk, h])]
set_option maxHeartbeats 1000000 in
theorem rskip_c (l : List UInt8) (i : Nat) (hi : i ≤ l.length) (w : World) (hl : l.length ≤ 9223372036854775807) :
    Calls Tryd.prog 19 #[.string (bs l), .int .i64 (i : Int)] w fun e w' => e = .returned (.int .i64 ((i + idleN (l.drop i) : Nat) : Int)) ∧ w = w' := by
  have hs : (bs l).size = l.length := bs_size l
  obtain ⟨N, hN⟩ : ∃ N, i + idleN (l.drop i) = N := ⟨_, rfl⟩
  rw [hN]
  have HN := Lib.hid hN
  clear hN
  go_enter Tryd.func19, Tryd.ntmps19
  go_wp2_with fail
  go_loop [1] (fun t => ∃ k : Nat, k ≤ l.length ∧ t = .int .i64 (k : Int) ∧ Hid (k + idleN (l.drop k) = N)) (fun t => l.length - (intOf t).toNat)
  case atStart => exact ⟨i, hi, rfl, HN.out⟩
  case round =>
    obtain ⟨k, hk, rfl, hr⟩ := hrel
    clear HN
    by_cases hlt : k < l.length
    · have hget : (bs l)[k]'hlt = l[k] := rfl
      have hd : decide ((k : Int) < (l.length : Int)) = true := decide_eq_true (by omega)
      by_cases h2 : l[k].toNat = 35
      · -- a remark
        have h3 : ((((bs l)[k]'hlt).toNat : Int) == 35) = true := (beq_lit l[k].toNat 35).trans (decide_eq_true h2)
        have h4 : ((((bs l)[k]'hlt).toNat : Int) != 35) = false := (bne_lit l[k].toNat 35).trans (by simp [h2])
        have h1 : isBlk l[k] = false := by unfold isBlk; apply decide_eq_false; omega
        have hz : Hid (k + idleT (l.drop k) = N) := by
          have := hr.out
          rw [drop_next hlt, idleN_hash h2, ← drop_next hlt] at this
          exact this
        have HX : Hid (l[k].toNat = 35) := h2
        clear hr h2
        go_wp2_with (go_at_call 27; refine (rblank_c l[k] _).mono ?_; rintro e w' ⟨rfl, rfl⟩; rw [h1])
        clear h1 h3 h4 hd hget
        go_loop [1] (fun t => ∃ j : Nat, k ≤ j ∧ j ≤ l.length ∧ t = .int .i64 (j : Int) ∧ Hid (j + idleT (l.drop j) = N)) (fun t => l.length - (intOf t).toNat)
        case atStart => exact ⟨k, Nat.le_refl _, hk, rfl, hz.out⟩
        case round =>
          obtain ⟨j, hj1, hj2, rfl, hr⟩ := hrel
          clear hz
          by_cases hjl : j < l.length
          · have hget : (bs l)[j]'hjl = l[j] := rfl
            have hd : decide ((j : Int) < (l.length : Int)) = true := decide_eq_true (by omega)
            by_cases h5 : l[j].toNat = 10
            · have h6 : ((((bs l)[j]'hjl).toNat : Int) != 10) = false := (bne_lit l[j].toNat 10).trans (by simp [h5])
              have hz : Hid (j + idleN (l.drop j) = N) := by
                have := hr.out
                rw [drop_next hjl, idleT_line h5, ← drop_next hjl] at this
                exact this
              have hkj : k < j := by
                rcases Nat.lt_or_ge k j with h | h
                · exact h
                · obtain rfl : k = j := by omega
                  have := HX.out
                  omega
              clear h5 hr
              go_wp2_with fail
              go_round
              case rel => exact ⟨j, hj2, rfl, hz.out⟩
              case measure => simp [intOf]; omega
            · have h6 : ((((bs l)[j]'hjl).toNat : Int) != 10) = true := (bne_lit l[j].toNat 10).trans (by simp [h5])
              have hz : Hid (j + 1 + idleT (l.drop (j + 1)) = N) := by
                have := hr.out
                rw [drop_next hjl, idleT_go h5] at this
                show _ = _
                omega
              clear h5 hr
              go_wp2_with fail
              go_round
              case rel => exact ⟨j + 1, by omega, by omega, by go_num, hz.out⟩
              case measure => simp [intOf]; omega
          · obtain rfl : j = l.length := by omega
            have hz : Hid (l.length + idleN (l.drop l.length) = N) := by
              have := hr.out
              rw [List.drop_length] at this ⊢
              exact this
            clear hr
            go_wp2_with fail
            go_round
            case rel => exact ⟨l.length, Nat.le_refl _, rfl, hz.out⟩
            case measure => simp [intOf]; omega
      · have h3 : ((((bs l)[k]'hlt).toNat : Int) == 35) = false := (beq_lit l[k].toNat 35).trans (decide_eq_false h2)
        have h4 : ((((bs l)[k]'hlt).toNat : Int) != 35) = true := (bne_lit l[k].toNat 35).trans (by simp [h2])
        cases h1 : isBlk l[k]
        · have hz : Hid (N = k) := by
            have := hr.out
            rw [drop_next hlt, idleN_stop h1 h2] at this
            exact this.symm
          clear hr h2
          go_wp2_with (go_at_call 27; refine (rblank_c l[k] _).mono ?_; rintro e w' ⟨rfl, rfl⟩; rw [h1])
          go_ret
          exact ⟨ret_int (by rw [hz.out]), rfl⟩
        · have hz : Hid (k + 1 + idleN (l.drop (k + 1)) = N) := by
            have := hr.out
            rw [drop_next hlt, idleN_blk h1] at this
            show _ = _
            omega
          clear hr h2
          go_wp2_with (go_at_call 27; refine (rblank_c l[k] _).mono ?_; rintro e w' ⟨rfl, rfl⟩; rw [h1])
          go_round
          case rel => exact ⟨k + 1, by omega, by go_num, hz.out⟩
          case measure => simp [intOf]; omega
    · obtain rfl : k = l.length := by omega
      have hz : Hid (N = l.length) := by
        have := hr.out
        rw [List.drop_length, idleN_nil] at this
        exact this.symm
      go_wp2_with fail
      go_ret
      exact ⟨ret_int (by rw [hz.out]), rfl⟩
end Go.Proofs.YtnifndolopnbfaaDoor

namespace Go.Proofs.YtnifndolopnbfaaDoor
open Go.RowKit

/-- The token at an offset, with that offset, and an error. -/
def oneF (l : List UInt8) (i : Nat) : Tok × Nat := if (fst1 (l.drop i)).2 = 0 then ((fst1 (l.drop i)).1.at_ (i : Int), 0) else fst1 (l.drop i)
theorem extract_mid (l : List UInt8) (i n : Nat) : (bs l).extract i (i + n) = bs ((l.drop i).take n) := by
  rw [extract_bs, List.drop_take, Nat.add_sub_cancel_left]
section
variable {l : List UInt8} {i : Nat}
theorem oneF_ok {t : Tok} (h : fst1 (l.drop i) = (t, 0)) : oneF l i = (t.at_ (i : Int), 0) := by unfold oneF; rw [h]; rfl
theorem oneF_bad {e : Nat} (h : fst1 (l.drop i) = badT e) (he : e ≠ 0) : oneF l i = badT e := by unfold oneF; rw [h]; exact if_neg he
end
set_option maxRecDepth 100000 in
set_option maxHeartbeats 1000000 in
theorem rone_n (l : List UInt8) (i : Nat) (hi : i < l.length) (w : World) (hl : l.length ≤ 9223372036854775807) (h1 : isLet l[i] = true) (N : Nat) (hN : runN isIns (l.drop i) = N) (hz : ¬ 12 < N) (hle : i + N ≤ l.length) :
    Calls Tryd.prog 20 #[.string (bs l), .int .i64 (i : Int)] w (RetT w (⟨1, (l.drop i).take N, 0, (i : Int)⟩, 0)) := by
  have hs : (bs l).size = l.length := bs_size _
  have hext := extract_mid l i N
  obtain ⟨x, hx⟩ : ∃ x, (l.drop i).take N = x := ⟨_, rfl⟩
  rw [hx] at hext ⊢
  have HN := Lib.hid hN
  clear hN hx
  go_enter Tryd.func20, Tryd.ntmps20
  go_wp2_with (first
    | (go_at_call 28; refine (rletter_c l[i] _).mono ?_; rintro e w' ⟨rfl, rfl⟩; rw [h1])
    | (go_at_call 29; refine (rnameEnd_c l i (Nat.le_of_lt hi) _ hl).mono ?_; rintro e w' ⟨rfl, rfl⟩; rw [HN.out]))
  exact bodyPost_ret (v := .tuple #[.agg #[.int .u8 1, .string (bs x), .int .i64 0, .int .i64 (i : Int)], .int .i64 0]) (by simp [results, Tryd.results20, go_sem]; try rfl) rfl ⟨rfl, (Below.refl _ _).alloc (Nat.le_refl _) _⟩
set_option maxRecDepth 100000 in
set_option maxHeartbeats 1000000 in
theorem rone_nl (l : List UInt8) (i : Nat) (hi : i < l.length) (w : World) (hl : l.length ≤ 9223372036854775807) (h1 : isLet l[i] = true) (N : Nat) (hN : runN isIns (l.drop i) = N) (hz : 12 < N) (hle : i + N ≤ l.length) :
    Calls Tryd.prog 20 #[.string (bs l), .int .i64 (i : Int)] w (RetT w (badT 3)) := by
  have hs : (bs l).size = l.length := bs_size _
  have HN := Lib.hid hN
  clear hN
  go_enter Tryd.func20, Tryd.ntmps20
  go_wp2_with (first
    | (go_at_call 28; refine (rletter_c l[i] _).mono ?_; rintro e w' ⟨rfl, rfl⟩; rw [h1])
    | (go_at_call 29; refine (rnameEnd_c l i (Nat.le_of_lt hi) _ hl).mono ?_; rintro e w' ⟨rfl, rfl⟩; rw [HN.out]))
  exact bodyPost_ret (v := .tuple #[.agg #[.int .u8 0, .string ⟨#[]⟩, .int .i64 0, .int .i64 0], .int .i64 3]) (by simp [results, Tryd.results20, go_sem]; try rfl) rfl ⟨rfl, (Below.refl _ _).alloc (Nat.le_refl _) _⟩
set_option maxRecDepth 100000 in
set_option maxHeartbeats 1000000 in
theorem rone_d0 (l : List UInt8) (i : Nat) (hi : i < l.length) (w : World) (hl : l.length ≤ 9223372036854775807) (h1 : isLet l[i] = false) (h2 : isDig l[i] = true) (h3 : l[i].toNat = 48) (N : Nat) (hN : runN isDig (l.drop i) = N) (hz : 1 < N) (hle : i + N ≤ l.length) :
    Calls Tryd.prog 20 #[.string (bs l), .int .i64 (i : Int)] w (RetT w (badT 4)) := by
  have hs : (bs l).size = l.length := bs_size _
  have H3 : Hid (((bs l)[i]'hi).toNat = 48) := h3
  have HN := Lib.hid hN
  clear hN h3
  go_enter Tryd.func20, Tryd.ntmps20
  go_wp2_with (first
    | (go_at_call 28; refine (rletter_c l[i] _).mono ?_; rintro e w' ⟨rfl, rfl⟩; rw [h1])
    | (go_at_call 30; refine (rdigit_c l[i] _).mono ?_; rintro e w' ⟨rfl, rfl⟩; rw [h2])
    | (go_at_call 31; refine (rnumberEnd_c l i (Nat.le_of_lt hi) _ hl).mono ?_; rintro e w' ⟨rfl, rfl⟩; rw [HN.out]))
  all_goals first
    | (exfalso; have := H3.out; omega)
    | exact bodyPost_ret (v := .tuple #[.agg #[.int .u8 0, .string ⟨#[]⟩, .int .i64 0, .int .i64 0], .int .i64 4]) (by simp [results, Tryd.results20, go_sem]; try rfl) rfl ⟨rfl, (Below.refl _ _).alloc (Nat.le_refl _) _⟩
set_option maxRecDepth 100000 in
set_option maxHeartbeats 1000000 in
theorem rone_dl (l : List UInt8) (i : Nat) (hi : i < l.length) (w : World) (hl : l.length ≤ 9223372036854775807) (h1 : isLet l[i] = false) (h2 : isDig l[i] = true) (h3 : l[i].toNat ≠ 48) (N : Nat) (hN : runN isDig (l.drop i) = N) (hz : 9 < N) (hle : i + N ≤ l.length) :
    Calls Tryd.prog 20 #[.string (bs l), .int .i64 (i : Int)] w (RetT w (badT 3)) := by
  have hs : (bs l).size = l.length := bs_size _
  have H3 : Hid (¬ ((bs l)[i]'hi).toNat = 48) := h3
  have HN := Lib.hid hN
  clear hN h3
  go_enter Tryd.func20, Tryd.ntmps20
  go_wp2_with (first
    | (go_at_call 28; refine (rletter_c l[i] _).mono ?_; rintro e w' ⟨rfl, rfl⟩; rw [h1])
    | (go_at_call 30; refine (rdigit_c l[i] _).mono ?_; rintro e w' ⟨rfl, rfl⟩; rw [h2])
    | (go_at_call 31; refine (rnumberEnd_c l i (Nat.le_of_lt hi) _ hl).mono ?_; rintro e w' ⟨rfl, rfl⟩; rw [HN.out]))
  all_goals first
    | (exfalso; have := H3.out; omega)
    | exact bodyPost_ret (v := .tuple #[.agg #[.int .u8 0, .string ⟨#[]⟩, .int .i64 0, .int .i64 0], .int .i64 3]) (by simp [results, Tryd.results20, go_sem]; try rfl) rfl ⟨rfl, (Below.refl _ _).alloc (Nat.le_refl _) _⟩
set_option maxRecDepth 100000 in
set_option maxHeartbeats 1000000 in
theorem rone_d (l : List UInt8) (i : Nat) (hi : i < l.length) (w : World) (hl : l.length ≤ 9223372036854775807) (h1 : isLet l[i] = false) (h2 : isDig l[i] = true) (N : Nat) (hN : runN isDig (l.drop i) = N) (h3 : l[i].toNat ≠ 48 ∨ N ≤ 1) (hz : N ≤ 9) (hle : i + N ≤ l.length) :
    Calls Tryd.prog 20 #[.string (bs l), .int .i64 (i : Int)] w (RetT w (⟨2, (l.drop i).take N, ((numV ((l.drop i).take N) : Nat) : Int), (i : Int)⟩, 0)) := by
  have hs : (bs l).size = l.length := bs_size _
  have hext := extract_mid l i N
  have hdig : ∀ c ∈ (l.drop i).take N, isDig c = true := by rw [← hN]; exact runN_take _ _
  have hxl : ((l.drop i).take N).length ≤ 9 := by rw [List.length_take]; omega
  obtain ⟨x, hx⟩ : ∃ x, (l.drop i).take N = x := ⟨_, rfl⟩
  rw [hx] at hext hdig hxl ⊢
  obtain ⟨V, hV⟩ : ∃ V, numV x = V := ⟨_, rfl⟩
  rw [hV]
  have HV := Lib.hid hV
  have HN := Lib.hid hN
  have HD := Lib.hid hdig
  clear hN hx hV hdig
  by_cases h5 : ((bs l)[i]'hi).toNat = 48
  · have h6 : N ≤ 1 := by
      rcases h3 with h4 | h4
      · exact absurd h5 h4
      · exact h4
    have H5 := Lib.hid h5
    clear h3 h5
    go_enter Tryd.func20, Tryd.ntmps20
    go_wp2_with (first
      | (go_at_call 28; refine (rletter_c l[i] _).mono ?_; rintro e w' ⟨rfl, rfl⟩; rw [h1])
      | (go_at_call 30; refine (rdigit_c l[i] _).mono ?_; rintro e w' ⟨rfl, rfl⟩; rw [h2])
      | (go_at_call 31; refine (rnumberEnd_c l i (Nat.le_of_lt hi) _ hl).mono ?_; rintro e w' ⟨rfl, rfl⟩; rw [HN.out]))
    all_goals first
      | (exfalso; have := H5.out; omega)
      | (have q1 : (0 : Int) ≤ (i : Int) + (N : Int) := by omega
         have q2 : (i : Int) + (N : Int) ≤ (l.length : Int) := by omega
         have q3 : (i : Int) ≤ (i : Int) + (N : Int) := by omega
         have q4 : ((i : Int) + (N : Int)).toNat = i + N := by omega
         refine wp_region_still_tail 11 (by kernel_rfl) (by kernel_rfl) ?_
         simp only [List.take_succ_cons, List.take_zero, List.drop_succ_cons, List.drop_zero]
         repeat still_step
         still_call ((rValue_c x HD.out hxl _).mono (fun e w'' h => ⟨by rw [h.1, HV.out], h.2.symm⟩))
         repeat still_step
         refine wpStill_nil ?_
         change wpList _ _ _ _ _ (World.drew _)
         go_wp2_with fail
         exact bodyPost_ret (v := .tuple #[.agg #[.int .u8 2, .string (bs x), .int .i64 (V : Int), .int .i64 (i : Int)], .int .i64 0]) (by simp [results, Tryd.results20, go_sem]; try rfl) rfl ⟨rfl, below_dr ((Below.refl _ _).alloc (Nat.le_refl _) _)⟩)
  · have H5 := Lib.hid h5
    clear h3 h5
    go_enter Tryd.func20, Tryd.ntmps20
    go_wp2_with (first
      | (go_at_call 28; refine (rletter_c l[i] _).mono ?_; rintro e w' ⟨rfl, rfl⟩; rw [h1])
      | (go_at_call 30; refine (rdigit_c l[i] _).mono ?_; rintro e w' ⟨rfl, rfl⟩; rw [h2])
      | (go_at_call 31; refine (rnumberEnd_c l i (Nat.le_of_lt hi) _ hl).mono ?_; rintro e w' ⟨rfl, rfl⟩; rw [HN.out]))
    all_goals first
      | (exfalso; have := H5.out; omega)
      | (have q1 : (0 : Int) ≤ (i : Int) + (N : Int) := by omega
         have q2 : (i : Int) + (N : Int) ≤ (l.length : Int) := by omega
         have q3 : (i : Int) ≤ (i : Int) + (N : Int) := by omega
         have q4 : ((i : Int) + (N : Int)).toNat = i + N := by omega
         refine wp_region_still_tail 11 (by kernel_rfl) (by kernel_rfl) ?_
         simp only [List.take_succ_cons, List.take_zero, List.drop_succ_cons, List.drop_zero]
         repeat still_step
         still_call ((rValue_c x HD.out hxl _).mono (fun e w'' h => ⟨by rw [h.1, HV.out], h.2.symm⟩))
         repeat still_step
         refine wpStill_nil ?_
         change wpList _ _ _ _ _ (World.drew _)
         go_wp2_with fail
         exact bodyPost_ret (v := .tuple #[.agg #[.int .u8 2, .string (bs x), .int .i64 (V : Int), .int .i64 (i : Int)], .int .i64 0]) (by simp [results, Tryd.results20, go_sem]; try rfl) rfl ⟨rfl, below_dr ((Below.refl _ _).alloc (Nat.le_refl _) _)⟩)
set_option maxRecDepth 100000 in
set_option maxHeartbeats 1000000 in
theorem rone_s (l : List UInt8) (i : Nat) (hi : i < l.length) (w : World) (hl : l.length ≤ 9223372036854775807) (h1 : isLet l[i] = false) (h2 : isDig l[i] = false) (h3 : isSgn l[i] = true) :
    Calls Tryd.prog 20 #[.string (bs l), .int .i64 (i : Int)] w (RetT w (⟨3, [l[i]], 0, (i : Int)⟩, 0)) := by
  have hs : (bs l).size = l.length := bs_size _
  have hext : (bs l).extract i (i + 1) = bs [l[i]] := by rw [extract_mid, drop_next hi, List.take_succ_cons, List.take_zero]
  have H3 : Hid (((bs l)[i]'hi).toNat = 123 ∨ ((bs l)[i]'hi).toNat = 125 ∨ ((bs l)[i]'hi).toNat = 59 ∨ ((bs l)[i]'hi).toNat = 44) := by
    unfold isSgn at h3
    have := of_decide_eq_true h3
    exact this
  clear h3
  go_enter Tryd.func20, Tryd.ntmps20
  go_wp2_with (first
    | (go_at_call 28; refine (rletter_c l[i] _).mono ?_; rintro e w' ⟨rfl, rfl⟩; rw [h1])
    | (go_at_call 30; refine (rdigit_c l[i] _).mono ?_; rintro e w' ⟨rfl, rfl⟩; rw [h2]))
  all_goals first
    | (exfalso; have := H3.out; simp only [beq_iff_eq, beq_eq_false_iff_ne, ne_eq] at *; omega)
    | exact bodyPost_ret (v := .tuple #[.agg #[.int .u8 3, .string (bs [l[i]]), .int .i64 0, .int .i64 (i : Int)], .int .i64 0]) (by simp [results, Tryd.results20, go_sem]; try rfl) rfl ⟨rfl, (Below.refl _ _).alloc (Nat.le_refl _) _⟩
set_option maxRecDepth 100000 in
set_option maxHeartbeats 1000000 in
theorem rone_x (l : List UInt8) (i : Nat) (hi : i < l.length) (w : World) (hl : l.length ≤ 9223372036854775807) (h1 : isLet l[i] = false) (h2 : isDig l[i] = false) (h3 : isSgn l[i] = false) :
    Calls Tryd.prog 20 #[.string (bs l), .int .i64 (i : Int)] w (RetT w (badT 4)) := by
  have hs : (bs l).size = l.length := bs_size _
  have H3 : Hid (¬ (((bs l)[i]'hi).toNat = 123 ∨ ((bs l)[i]'hi).toNat = 125 ∨ ((bs l)[i]'hi).toNat = 59 ∨ ((bs l)[i]'hi).toNat = 44)) := by
    unfold isSgn at h3
    have := of_decide_eq_false h3
    exact this
  clear h3
  go_enter Tryd.func20, Tryd.ntmps20
  go_wp2_with (first
    | (go_at_call 28; refine (rletter_c l[i] _).mono ?_; rintro e w' ⟨rfl, rfl⟩; rw [h1])
    | (go_at_call 30; refine (rdigit_c l[i] _).mono ?_; rintro e w' ⟨rfl, rfl⟩; rw [h2]))
  all_goals first
    | (exfalso; have := H3.out; simp only [beq_iff_eq, beq_eq_false_iff_ne, ne_eq] at *; omega)
    | exact bodyPost_ret (v := .tuple #[.agg #[.int .u8 0, .string ⟨#[]⟩, .int .i64 0, .int .i64 0], .int .i64 4]) (by simp [results, Tryd.results20, go_sem]; try rfl) rfl ⟨rfl, (Below.refl _ _).alloc (Nat.le_refl _) _⟩
theorem rone_c (l : List UInt8) (i : Nat) (hi : i < l.length) (w : World) (hl : l.length ≤ 9223372036854775807) :
    Calls Tryd.prog 20 #[.string (bs l), .int .i64 (i : Int)] w (RetT w (oneF l i)) := by
  have hd := drop_next hi
  have li := runN_le isIns (l.drop i)
  have ld := runN_le isDig (l.drop i)
  rw [List.length_drop] at li ld
  cases h1 : isLet l[i]
  · cases h2 : isDig l[i]
    · cases h3 : isSgn l[i]
      · rw [oneF_bad (by rw [hd]; exact fst1_x _ _ h1 h2 h3) (by decide)]; exact rone_x l i hi w hl h1 h2 h3
      · rw [oneF_ok (by rw [hd]; exact fst1_s _ _ h1 h2 h3)]; exact rone_s l i hi w hl h1 h2 h3
    · by_cases h3 : l[i].toNat = 48 ∧ 1 < runN isDig (l.drop i)
      · rw [oneF_bad (e := 4) (by rw [hd] at h3 ⊢; exact fst1_d0 _ _ h1 h2 h3.1 h3.2) (by decide)]
        exact rone_d0 l i hi w hl h1 h2 h3.1 _ rfl h3.2 (by omega)
      · by_cases h4 : 9 < runN isDig (l.drop i)
        · rw [oneF_bad (e := 3) (by rw [hd] at h3 h4 ⊢; exact fst1_dl _ _ h1 h2 h3 h4) (by decide)]
          exact rone_dl l i hi w hl h1 h2 (fun e => h3 ⟨e, by omega⟩) _ rfl h4 (by omega)
        · rw [oneF_ok (t := ⟨2, (l.drop i).take (runN isDig (l.drop i)), ((numV ((l.drop i).take (runN isDig (l.drop i))) : Nat) : Int), 0⟩) (by rw [hd] at h3 h4 ⊢; exact fst1_d _ _ h1 h2 h3 h4)]
          refine rone_d l i hi w hl h1 h2 _ rfl ?_ (by omega) (by omega)
          by_cases h5 : l[i].toNat = 48
          · right; omega
          · left; exact h5
  · by_cases h2 : 12 < runN isIns (l.drop i)
    · rw [oneF_bad (e := 3) (by rw [hd] at h2 ⊢; exact fst1_nl _ _ h1 h2) (by decide)]; exact rone_nl l i hi w hl h1 _ rfl h2 (by omega)
    · rw [oneF_ok (t := ⟨1, (l.drop i).take (runN isIns (l.drop i)), 0, 0⟩) (by rw [hd] at h2 ⊢; exact fst1_n _ _ h1 h2)]; exact rone_n l i hi w hl h1 _ rfl h2 (by omega)
end Go.Proofs.YtnifndolopnbfaaDoor

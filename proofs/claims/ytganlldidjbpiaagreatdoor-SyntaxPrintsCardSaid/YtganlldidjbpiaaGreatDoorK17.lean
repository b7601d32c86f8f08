/- Walks of package syntax: slices.IndexFunc and ContainsFunc, of parts, of names, of clauses.
   Walks of package lexis: Print.
   Walks of package syntax: what formed asks.
   Walks of package syntax: rows of words that grow; the words of a clause, part by part. -/
import Derived.Laws.EntriesVeiled
import Derived.Test.YtganlldidjbpiaaGreatDoorK16
import Derived.Test.YtganlldidjbpiaaGreatDoorK14
import Derived.Test.YtganlldidjbpiaaGreatDoorK15
import Derived.Deep.DeepCutAuto
import Derived.Lib.AppendIntMem
import Derived.Test.YtganlldidjbpiaaGreatDoorK13
import Derived.Maps.AppendAt
set_option linter.unusedVariables false
namespace Go.Proofs.YtganlldidjbpiaaGreatDoor
open Go.RowKit Go.Shelf

theorem any_of {α : Type} {l : List α} {P : α → Bool} {i : Nat} {d : α} (hi : i < l.length) (h : P (l.getD i d) = true) : l.any P = true := by
  rw [List.any_eq_true]
  rw [List.getD_eq_getElem?_getD, List.getElem?_eq_getElem hi] at h
  exact ⟨_, List.getElem_mem hi, h⟩
theorem any_not {α : Type} {l : List α} {P : α → Bool} {d : α} (h : ∀ j, j < l.length → P (l.getD j d) = false) : l.any P = false := by
  rw [List.any_eq_false]
  intro x hx
  obtain ⟨j, hj, rfl⟩ := List.getElem_of_mem hx
  have := h j hj
  rw [List.getD_eq_getElem?_getD, List.getElem?_eq_getElem hj] at this
  simp only [Option.getD_some] at this
  rw [this]; simp
set_option maxRecDepth 100000 in
set_option maxHeartbeats 4000000 in
theorem indexFP_c (D : Nat → Prop) (w : World) (v : Value) (l : List (List UInt8 × Nat)) (P : (List UInt8 × Nat) → Bool) (f : Nat) (cap : Array Value) (h : SlP D w v l) (hen : ∀ args w, (callFunc f args).run Tryz.prog w = .ok (.enter f args) w)
    (hP : ∀ i, i < l.length → ∀ W, Below w.heap.size w W →  Calls Tryz.prog f (#[.agg #[.string (bs (l.getD i pt0).1), .int .u8 (((l.getD i pt0).2 : Nat) : Int)]] ++ cap) W (RetB W (P (l.getD i pt0)))) :
    Calls Tryz.prog 90 #[v, .func (.func f) #[] cap] w fun e w' => ∃ z : Int, e = .returned (.int .i64 z) ∧ decide (0 ≤ z) = l.any P ∧ Below w.heap.size w w' := by
  have H := Lib.hid h
  have HP := Lib.hid hP
  obtain ⟨p, c, rfl, h1, h2, _⟩ := SlH.shape h
  clear h hP
  obtain ⟨B, hB⟩ : ∃ B, l.any P = B := ⟨_, rfl⟩
  rw [hB]
  have HB := Lib.hid hB
  clear hB
  go_enter Tryz.func90, Tryz.ntmps90
  go_wp2_with fail
  go_loopg [8] l.length (fun g t wx => ∃ i : Nat, i ≤ l.length ∧ g = l.length - i ∧ t = .int .i64 (i : Int) ∧ Hid (∀ j, j < i → P (l.getD j pt0) = false) ∧ Hid (Below w.heap.size w wx))
  case atStart => exact ⟨0, Nat.zero_le _, rfl, rfl, fun j hj => absurd hj (by omega), Below.refl _ _⟩
  case round =>
    obtain ⟨i, hi, rfl, rfl, heq, hbl⟩ := hrel
    by_cases hlt : i < l.length
    · obtain ⟨ba, oa, ca, ea, _, _, _, la, hca⟩ := (SlH.after H.out hbl.out).at_ (by omega)
      injection ea with ea _ ec
      subst ea ec
      have x0 : wr.cell? ⟨ba, oa + i * 2, none⟩ = some (.string (bs (l.getD i pt0).1)) := hca i hlt 0 (by omega)
      have x1 : wr.cell? ⟨ba, oa + i * 2 + 1, none⟩ = some (.int .u8 (((l.getD i pt0).2 : Nat) : Int)) := hca i hlt 1 (by omega)
      have HCALL := Lib.hid (HP.out i hlt wr hbl.out)
      obtain ⟨x, hx⟩ : ∃ x, l.getD i pt0 = x := ⟨_, rfl⟩
      rw [hx] at x0 x1 HCALL
      have HX := Lib.hid hx
      clear hca hx
      have il : (i : Int) < (l.length : Int) := by omega
      have i0 : (0 : Int) ≤ (i : Int) := by omega
      go_wp2_with fail
      refine HCALL.out.mono ?_
      rintro e w1 ⟨rfl, hb1⟩
      have HB1 := Lib.hid (hbl.out.trans (hb1.mono hbl.out.size))
      clear hb1 x0 x1
      obtain ⟨b, hb⟩ : ∃ b, P x = b := ⟨_, rfl⟩
      rw [hb]
      have HBB := Lib.hid hb
      clear hb
      cases b with
      | false =>
        go_wp2_with fail
        go_roundg (l.length - (i + 1))
        case measure => omega
        case rel =>
          refine ⟨i + 1, by omega, rfl, by go_num, fun j hj => ?_, HB1.out⟩
          rcases Nat.lt_or_ge j i with h | h
          · exact heq.out j h
          · obtain rfl : j = i := by omega
            rw [HX.out]; exact HBB.out
      | true =>
        have HE : Hid (B = true) := by
          show _ = _
          rw [← HB.out]
          exact any_of hlt (by rw [HX.out]; exact HBB.out)
        clear heq
        go_wp2_with fail
        go_ret
        exact ⟨_, rfl, by rw [HE.out]; exact decide_eq_true (by omega), HB1.out⟩
    · obtain rfl : i = l.length := by omega
      have HE : Hid (B = false) := by
        show _ = _
        rw [← HB.out]
        exact any_not heq.out
      go_wp2_with fail
      go_ret
      exact ⟨_, rfl, by rw [HE.out]; rfl, hbl.out⟩
set_option maxRecDepth 100000 in
set_option maxHeartbeats 4000000 in
theorem containsFP_c (D : Nat → Prop) (w : World) (v : Value) (l : List (List UInt8 × Nat)) (P : (List UInt8 × Nat) → Bool) (f : Nat) (cap : Array Value) (h : SlP D w v l) (hen : ∀ args w, (callFunc f args).run Tryz.prog w = .ok (.enter f args) w)
    (hP : ∀ i, i < l.length → ∀ W, Below w.heap.size w W →  Calls Tryz.prog f (#[.agg #[.string (bs (l.getD i pt0).1), .int .u8 (((l.getD i pt0).2 : Nat) : Int)]] ++ cap) W (RetB W (P (l.getD i pt0)))) :
    Calls Tryz.prog 55 #[v, .func (.func f) #[] cap] w (RetB w (l.any P)) := by
  have HC := Lib.hid (indexFP_c D w v l P f cap h hen hP)
  clear h hen hP
  obtain ⟨B, hB⟩ : ∃ B, l.any P = B := ⟨_, rfl⟩
  rw [hB] at HC ⊢
  clear hB
  go_enter Tryz.func55, Tryz.ntmps55
  go_wp2_with fail
  refine HC.out.mono ?_
  rintro e w1 ⟨z, rfl, hz, hb⟩
  have HBB := Lib.hid hb
  have HZ := Lib.hid hz
  clear hb hz
  go_wp2_with fail
  go_ret
  exact ⟨ret_bool HZ.out, HBB.out⟩
set_option maxRecDepth 100000 in
set_option maxHeartbeats 4000000 in
theorem indexFS_c (D : Nat → Prop) (w : World) (v : Value) (l : List (List UInt8)) (P : (List UInt8) → Bool) (f : Nat) (cap : Array Value) (h : SlN D w v l) (hen : ∀ args w, (callFunc f args).run Tryz.prog w = .ok (.enter f args) w)
    (hP : ∀ i, i < l.length → ∀ W, Below w.heap.size w W →  Calls Tryz.prog f (#[.string (bs (l.getD i []))] ++ cap) W (RetB W (P (l.getD i [])))) :
    Calls Tryz.prog 114 #[v, .func (.func f) #[] cap] w fun e w' => ∃ z : Int, e = .returned (.int .i64 z) ∧ decide (0 ≤ z) = l.any P ∧ Below w.heap.size w w' := by
  have H := Lib.hid h
  have HP := Lib.hid hP
  obtain ⟨p, c, rfl, h1, h2, _⟩ := h.2.shape
  clear h hP
  obtain ⟨B, hB⟩ : ∃ B, l.any P = B := ⟨_, rfl⟩
  rw [hB]
  have HB := Lib.hid hB
  clear hB
  go_enter Tryz.func114, Tryz.ntmps114
  go_wp2_with fail
  go_loopg [8] l.length (fun g t wx => ∃ i : Nat, i ≤ l.length ∧ g = l.length - i ∧ t = .int .i64 (i : Int) ∧ Hid (∀ j, j < i → P (l.getD j []) = false) ∧ Hid (Below w.heap.size w wx))
  case atStart => exact ⟨0, Nat.zero_le _, rfl, rfl, fun j hj => absurd hj (by omega), Below.refl _ _⟩
  case round =>
    obtain ⟨i, hi, rfl, rfl, heq, hbl⟩ := hrel
    by_cases hlt : i < l.length
    · obtain ⟨ba, oa, ca, ea, _, _, _, la, hca⟩ := (SlH.after H.out.2 hbl.out).at_ (by omega)
      injection ea with ea _ ec
      subst ea ec
      have x0 : wr.cell? ⟨ba, oa + i, none⟩ = some (.string (bs (l.getD i []))) := by have := hca i hlt 0 (by omega); simpa using this
      have HCALL := Lib.hid (HP.out i hlt wr hbl.out)
      obtain ⟨x, hx⟩ : ∃ x, l.getD i [] = x := ⟨_, rfl⟩
      rw [hx] at x0 HCALL
      have HX := Lib.hid hx
      clear hca hx
      have il : (i : Int) < (l.length : Int) := by omega
      have i0 : (0 : Int) ≤ (i : Int) := by omega
      go_wp2_with fail
      refine HCALL.out.mono ?_
      rintro e w1 ⟨rfl, hb1⟩
      have HB1 := Lib.hid (hbl.out.trans (hb1.mono hbl.out.size))
      clear hb1 x0
      obtain ⟨b, hb⟩ : ∃ b, P x = b := ⟨_, rfl⟩
      rw [hb]
      have HBB := Lib.hid hb
      clear hb
      cases b with
      | false =>
        go_wp2_with fail
        go_roundg (l.length - (i + 1))
        case measure => omega
        case rel =>
          refine ⟨i + 1, by omega, rfl, by go_num, fun j hj => ?_, HB1.out⟩
          rcases Nat.lt_or_ge j i with h | h
          · exact heq.out j h
          · obtain rfl : j = i := by omega
            rw [HX.out]; exact HBB.out
      | true =>
        have HE : Hid (B = true) := by
          show _ = _
          rw [← HB.out]
          exact any_of hlt (by rw [HX.out]; exact HBB.out)
        clear heq
        go_wp2_with fail
        go_ret
        exact ⟨_, rfl, by rw [HE.out]; exact decide_eq_true (by omega), HB1.out⟩
    · obtain rfl : i = l.length := by omega
      have HE : Hid (B = false) := by
        show _ = _
        rw [← HB.out]
        exact any_not heq.out
      go_wp2_with fail
      go_ret
      exact ⟨_, rfl, by rw [HE.out]; rfl, hbl.out⟩
set_option maxRecDepth 100000 in
set_option maxHeartbeats 4000000 in
theorem containsFS_c (D : Nat → Prop) (w : World) (v : Value) (l : List (List UInt8)) (P : (List UInt8) → Bool) (f : Nat) (cap : Array Value) (h : SlN D w v l) (hen : ∀ args w, (callFunc f args).run Tryz.prog w = .ok (.enter f args) w)
    (hP : ∀ i, i < l.length → ∀ W, Below w.heap.size w W →  Calls Tryz.prog f (#[.string (bs (l.getD i []))] ++ cap) W (RetB W (P (l.getD i [])))) :
    Calls Tryz.prog 91 #[v, .func (.func f) #[] cap] w (RetB w (l.any P)) := by
  have HC := Lib.hid (indexFS_c D w v l P f cap h hen hP)
  clear h hen hP
  obtain ⟨B, hB⟩ : ∃ B, l.any P = B := ⟨_, rfl⟩
  rw [hB] at HC ⊢
  clear hB
  go_enter Tryz.func91, Tryz.ntmps91
  go_wp2_with fail
  refine HC.out.mono ?_
  rintro e w1 ⟨z, rfl, hz, hb⟩
  have HBB := Lib.hid hb
  have HZ := Lib.hid hz
  clear hb hz
  go_wp2_with fail
  go_ret
  exact ⟨ret_bool HZ.out, HBB.out⟩
set_option maxRecDepth 100000 in
set_option maxHeartbeats 4000000 in
theorem indexFC_c (D : Nat → Prop) (w : World) (v : Value) (l : List Cl) (P : Cl → Bool) (f : Nat) (cap : Array Value) (h : SlC D w v l) (hen : ∀ args w, (callFunc f args).run Tryz.prog w = .ok (.enter f args) w)
    (hP : ∀ i, i < l.length → ∀ W, Below w.heap.size w W → ∀ vn vi, HasC D W vn vi (l.getD i cl0) → Calls Tryz.prog f (#[.agg (clV (l.getD i cl0) vn vi).toArray] ++ cap) W (RetB W (P (l.getD i cl0)))) :
    Calls Tryz.prog 89 #[v, .func (.func f) #[] cap] w fun e w' => ∃ z : Int, e = .returned (.int .i64 z) ∧ decide (0 ≤ z) = l.any P ∧ Below w.heap.size w w' := by
  have H := Lib.hid h
  have HP := Lib.hid hP
  obtain ⟨p, c, rfl, h1, h2, _⟩ := h.shape
  clear h hP
  obtain ⟨B, hB⟩ : ∃ B, l.any P = B := ⟨_, rfl⟩
  rw [hB]
  have HB := Lib.hid hB
  clear hB
  go_enter Tryz.func89, Tryz.ntmps89
  go_wp2_with fail
  go_loopg [8] l.length (fun g t wx => ∃ i : Nat, i ≤ l.length ∧ g = l.length - i ∧ t = .int .i64 (i : Int) ∧ Hid (∀ j, j < i → P (l.getD j cl0) = false) ∧ Hid (Below w.heap.size w wx))
  case atStart => exact ⟨0, Nat.zero_le _, rfl, rfl, fun j hj => absurd hj (by omega), Below.refl _ _⟩
  case round =>
    obtain ⟨i, hi, rfl, rfl, heq, hbl⟩ := hrel
    by_cases hlt : i < l.length
    · obtain ⟨ba, oa, ca, ea, _, _, _, la, hca⟩ := (SlC.after H.out hbl.out).at_ (by omega)
      injection ea with ea _ ec
      subst ea ec
      obtain ⟨vn, vi, hc, x0, x1, x2, x3, x4, x5, x6, x7⟩ := hca i hlt
      have HCALL := Lib.hid (HP.out i hlt wr hbl.out _ _ hc)
      obtain ⟨x, hx⟩ : ∃ x, l.getD i cl0 = x := ⟨_, rfl⟩
      rw [hx] at x0 x2 x3 x4 x5 x7 hc HCALL
      have HX := Lib.hid hx
      obtain ⟨qn, cn, rfl, _, _, _⟩ := (hasC_iff.1 hc).2.1.2.shape
      obtain ⟨qi, ci, rfl, _, _, _⟩ := (hasC_iff.1 hc).2.2.shape
      unfold clV at HCALL
      clear hc
      clear hca hx
      have il : (i : Int) < (l.length : Int) := by omega
      have i0 : (0 : Int) ≤ (i : Int) := by omega
      go_wp2_with fail
      refine HCALL.out.mono ?_
      rintro e w1 ⟨rfl, hb1⟩
      have HB1 := Lib.hid (hbl.out.trans (hb1.mono hbl.out.size))
      clear hb1 x0 x1 x2 x3 x4 x5 x6 x7
      obtain ⟨b, hb⟩ : ∃ b, P x = b := ⟨_, rfl⟩
      rw [hb]
      have HBB := Lib.hid hb
      clear hb
      cases b with
      | false =>
        go_wp2_with fail
        go_roundg (l.length - (i + 1))
        case measure => omega
        case rel =>
          refine ⟨i + 1, by omega, rfl, by go_num, fun j hj => ?_, HB1.out⟩
          rcases Nat.lt_or_ge j i with h | h
          · exact heq.out j h
          · obtain rfl : j = i := by omega
            rw [HX.out]; exact HBB.out
      | true =>
        have HE : Hid (B = true) := by
          show _ = _
          rw [← HB.out]
          exact any_of hlt (by rw [HX.out]; exact HBB.out)
        clear heq
        go_wp2_with fail
        go_ret
        exact ⟨_, rfl, by rw [HE.out]; exact decide_eq_true (by omega), HB1.out⟩
    · obtain rfl : i = l.length := by omega
      have HE : Hid (B = false) := by
        show _ = _
        rw [← HB.out]
        exact any_not heq.out
      go_wp2_with fail
      go_ret
      exact ⟨_, rfl, by rw [HE.out]; rfl, hbl.out⟩
set_option maxRecDepth 100000 in
set_option maxHeartbeats 4000000 in
theorem containsFC_c (D : Nat → Prop) (w : World) (v : Value) (l : List Cl) (P : Cl → Bool) (f : Nat) (cap : Array Value) (h : SlC D w v l) (hen : ∀ args w, (callFunc f args).run Tryz.prog w = .ok (.enter f args) w)
    (hP : ∀ i, i < l.length → ∀ W, Below w.heap.size w W → ∀ vn vi, HasC D W vn vi (l.getD i cl0) → Calls Tryz.prog f (#[.agg (clV (l.getD i cl0) vn vi).toArray] ++ cap) W (RetB W (P (l.getD i cl0)))) :
    Calls Tryz.prog 52 #[v, .func (.func f) #[] cap] w (RetB w (l.any P)) := by
  have HC := Lib.hid (indexFC_c D w v l P f cap h hen hP)
  clear h hen hP
  obtain ⟨B, hB⟩ : ∃ B, l.any P = B := ⟨_, rfl⟩
  rw [hB] at HC ⊢
  clear hB
  go_enter Tryz.func52, Tryz.ntmps52
  go_wp2_with fail
  refine HC.out.mono ?_
  rintro e w1 ⟨z, rfl, hz, hb⟩
  have HBB := Lib.hid hb
  have HZ := Lib.hid hz
  clear hb hz
  go_wp2_with fail
  go_ret
  exact ⟨ret_bool HZ.out, HBB.out⟩
end Go.Proofs.YtganlldidjbpiaaGreatDoor

namespace Go.Proofs.YtganlldidjbpiaaGreatDoor
open Go.RowKit

/-- Block S is a row of n strings, of which the first k are written. -/
def RowS (W : World) (S n k : Nat) (ts : List Tok) : Prop := ∃ cs : Array Value, Box W S cs 9 ∧ cs.size = n ∧ (∀ j : Nat, j < n → ∃ s, cs[j]? = some (.string s)) ∧ ∀ j : Nat, j < k → cs[j]? = some (.string (bs (tok ts j).text))
theorem RowS.after {W W' : World} {S n k : Nat} {ts : List Tok} (h : RowS W S n k ts) (hb : Below W.heap.size W W') : RowS W' S n k ts := by
  obtain ⟨cs, h1, h2, h3, h4⟩ := h
  exact ⟨cs, h1.after hb, h2, h3, h4⟩
theorem RowS.cell {W : World} {S n k : Nat} {ts : List Tok} (h : RowS W S n k ts) {j : Nat} (hj : j < n) : ∃ s, W.cell? ⟨S, j, none⟩ = some (.string s) := by
  obtain ⟨cs, h1, h2, h3, h4⟩ := h
  obtain ⟨s, hs⟩ := h3 j hj
  exact ⟨s, by rw [h1.cell]; exact hs⟩
theorem RowS.lt {W : World} {S n k : Nat} {ts : List Tok} (h : RowS W S n k ts) : S < W.heap.size := by
  obtain ⟨cs, h1, _⟩ := h
  exact h1.lt
theorem RowS.frozen {W : World} {S n k : Nat} {ts : List Tok} (h : RowS W S n k ts) (i : Nat) : W.frozen? ⟨S, i, none⟩ = false := by
  obtain ⟨cs, h1, _⟩ := h
  exact h1.frozen i
theorem RowS.set {W : World} {S n k : Nat} {ts : List Tok} (h : RowS W S n k ts) (hk : k < n) : RowS (W.setCell ⟨S, k, none⟩ (.string (bs (tok ts k).text))) S n (k + 1) ts := by
  obtain ⟨cs, h1, h2, h3, h4⟩ := h
  refine ⟨_, h1.set k _, by simp [h2], fun j hj => ?_, fun j hj => ?_⟩
  · by_cases e : k = j
    · subst e
      exact ⟨_, by rw [Array.getElem?_setIfInBounds_self_of_lt (by omega)]⟩
    · obtain ⟨s, hs⟩ := h3 j hj
      exact ⟨s, by rw [Array.getElem?_setIfInBounds_ne e]; exact hs⟩
  · by_cases e : k = j
    · subst e
      rw [Array.getElem?_setIfInBounds_self_of_lt (by omega)]
    · rw [Array.getElem?_setIfInBounds_ne e]
      exact h4 j (by omega)
theorem RowS.new (w : World) (n : Nat) (ts : List Tok) : RowS (w.alloc (.cells (madeCells #[Value.string ⟨#[]⟩] n) 9)) w.heap.size n 0 ts := by
  refine ⟨_, Box.new w _ _, by simp [madeCells], fun j hj => ⟨⟨#[]⟩, ?_⟩, fun j hj => by omega⟩
  simp [madeCells, hj, Nat.mod_one]
theorem run_makeS (n : Nat) (hn : n ≤ 1000000) : ∀ w : World, (Instr.makeSlice 40 (.int .i64 (n : Int)) (.int .i64 (n : Int))).run Tryz.prog w =
    .ok (.slice (some ⟨w.heap.size, 0, none⟩) n n) (w.alloc (.cells (madeCells #[Value.string ⟨#[]⟩] n) 9)) :=
  run_make_row' (P := Tryz.prog) 40 9 (.string ⟨#[]⟩) 16 Tryz.underlying40 (by kernel_rfl) rfl .i64 .i64 n (by omega) (by omega)

set_option maxRecDepth 100000 in
set_option maxHeartbeats 4000000 in
theorem Print_c (w : World) (v : Value) (ts : List Tok) (h : SlK w v ts) (hn : ts.length ≤ 1000000) : Calls Tryz.prog 93 #[v] w fun e w' => e = .returned (.tuple #[.string (bs (printF ts).1), .int .i64 (((printF ts).2 : Nat) : Int)]) ∧ Below w.heap.size w w' := by
  have H := Lib.hid h
  obtain ⟨a, c, rfl, h1, h2, _⟩ := h.shape
  clear h
  obtain ⟨n, hN⟩ : ∃ n, ts.length = n := ⟨_, rfl⟩
  have hmk := run_makeS ts.length hn
  rw [hN] at h1 hn hmk ⊢
  have HN := Lib.hid hN
  rw [hN] at H
  clear hN
  go_enter Tryz.func93, Tryz.ntmps93
  go_upto_region 3 with fail
  obtain ⟨W1, hW1⟩ : ∃ W1, W1 = w.alloc (.cells (madeCells #[Value.string ⟨#[]⟩] n) 9) := ⟨_, rfl⟩
  have HR1 : Hid (RowS W1 w.heap.size n 0 ts) := hW1 ▸ RowS.new w n ts
  have HB1 : Hid (Below w.heap.size w W1) := hW1 ▸ held_alloc (Below.refl _ w)
  rw [← hW1]
  clear hW1 hmk
  go_wp2_with fail
  go_loopw [4, 17] (fun sz t wx => ∃ k : Nat, k ≤ n ∧ sz = .int .i64 ((n - 1 + sumT ts k : Nat) : Int) ∧ t = .int .i64 k ∧ Hid (RowS wx w.heap.size n k ts) ∧ Hid (Below w.heap.size w wx) ∧ Hid (∀ j (h : j < ts.length), j < k → rightT ts[j])) (fun _ t _ => n - (intOf t).toNat)
  case atStart =>
    refine ⟨0, Nat.zero_le _, ?_, rfl, HR1.out, HB1.out, fun j _ h => by omega⟩
    rw [sumT_zero]
    congr 1
    omega
  case round =>
    obtain ⟨k, hk, rfl, rfl, hrow, hb, hr⟩ := hrel
    have hsum : sumT ts k ≤ 12 * k := sumT_small (by rw [HN.out]; exact hk) hr.out
    by_cases hlt : k < n
    · have hkl : k < ts.length := by rw [HN.out]; exact hlt
      have hnext := sumT_next hkl
      have hgt := tok_get hkl
      obtain ⟨b, off, cap, e, _, _, hblt, hc⟩ := (H.out.after hb.out).at_ (by omega)
      injection e with e1 e2 e3
      clear e2
      subst e1
      subst e3
      obtain ⟨a0, a1, a2, a3⟩ := hc k hkl
      have hok := H.out.ok hkl
      have hset : Hid (∀ W, RowS W w.heap.size n k ts → RowS (W.setCell ⟨w.heap.size, k, none⟩ (.string (bs (tok ts k).text))) w.heap.size n (k + 1) ts) := fun W h => h.set hlt
      obtain ⟨S, hS⟩ : ∃ S, sumT ts k = S := ⟨_, rfl⟩
      rw [hS] at hsum hnext ⊢
      rw [← hgt] at hnext
      by_cases hrt : rightT (tok ts k)
      · have HRT : Hid (rightT ts[k]) := by rw [hgt] at hrt; exact hrt
        have hdec : Hid (decide (rightT (tok ts k)) = true) := decide_eq_true hrt
        have hx12 := rightT_len hrt
        obtain ⟨⟨kk, xx, nn, oo⟩, ht⟩ : ∃ t, tok ts k = t := ⟨_, rfl⟩
        rw [ht] at a0 a1 a2 a3 hdec hok hset hnext hx12
        have HNX := Lib.hid hnext
        have HOK := Lib.hid hok
        have hxs : (bs xx).size = xx.length := bs_size xx
        have hx13 : xx.length ≤ 12 := hx12
        clear hc hok hgt hrt ht hS hnext hx12
        go_upto_region 6 with fail
        obtain ⟨w3, hw3⟩ : ∃ w3, w3 = wr.alloc (.cells #[.int .u8 (kk : Int), .string (bs xx), .int .i64 nn, .int .i64 oo] 37) := ⟨_, rfl⟩
        have hb3 : Below wr.heap.size wr w3 := hw3 ▸ held_alloc (Below.refl _ wr)
        have bx : Box w3 wr.heap.size #[.int .u8 (kk : Int), .string (bs xx), .int .i64 nn, .int .i64 oo] 37 := hw3 ▸ Box.new wr _ _
        rw [← hw3]
        clear hw3 a0 a1 a2 a3
        obtain ⟨c0, c1, c2, c3⟩ := bx.cells4
        have BX := Lib.hid bx
        have HR3 := Lib.hid (hrow.out.after hb3)
        have HB3 := Lib.hid (hb.out.trans (hb3.mono hb.out.size))
        have hlt3 := bx.lt
        have hlS := hrow.out.lt
        clear hb3 bx
        go_wp2_with fail
        refine (right_c ⟨kk, xx, nn, oo⟩ w3 HOK.out HOK.out.2.2.2).mono ?_
        rw [hdec.out]
        rintro e w4 ⟨rfl, hb4⟩
        obtain ⟨c0, c1, c2, c3⟩ := (BX.out.after hb4).cells4
        have HR4 := Lib.hid (HR3.out.after hb4)
        have HB4 := Lib.hid (HB3.out.trans (hb4.mono HB3.out.size))
        have hlt4 := (BX.out.after hb4).lt
        obtain ⟨s0, hs0⟩ := HR4.out.cell hlt
        have fS := HR4.out.frozen k
        have HS5 : Hid (RowS (w4.setCell ⟨w.heap.size, k, none⟩ (.string (bs xx))) w.heap.size n (k + 1) ts) := hset.out _ HR4.out
        have HB5 : Hid (Below w.heap.size w (w4.setCell ⟨w.heap.size, k, none⟩ (.string (bs xx)))) := HB4.out.setCell (p := ⟨w.heap.size, k, none⟩) (Nat.le_refl _) _
        clear hb4
        go_wp2_with fail
        go_roundw
        case rel =>
          refine ⟨k + 1, by omega, ?_, by go_num, HS5.out, HB5.out, fun j h hj => ?_⟩
          · rw [HNX.out]; congr 1; push_cast; omega
          · rcases Nat.lt_or_ge j k with h1 | h1
            · exact hr.out j h h1
            · obtain rfl : j = k := by omega
              exact HRT.out
        case measure => simp [intOf]; omega
      · have hdec : Hid (decide (rightT (tok ts k)) = false) := decide_eq_false hrt
        have hfin : Hid (printF ts = ([], 1)) := printF_bad (List.getElem_mem hkl) (by rw [hgt] at hrt; exact hrt)
        obtain ⟨⟨kk, xx, nn, oo⟩, ht⟩ : ∃ t, tok ts k = t := ⟨_, rfl⟩
        rw [ht] at a0 a1 a2 a3 hdec hok
        have HOK := Lib.hid hok
        clear hc hok hgt hrt ht hS hnext hset
        go_upto_region 6 with fail
        obtain ⟨w3, hw3⟩ : ∃ w3, w3 = wr.alloc (.cells #[.int .u8 (kk : Int), .string (bs xx), .int .i64 nn, .int .i64 oo] 37) := ⟨_, rfl⟩
        have hb3 : Below wr.heap.size wr w3 := hw3 ▸ held_alloc (Below.refl _ wr)
        have bx : Box w3 wr.heap.size #[.int .u8 (kk : Int), .string (bs xx), .int .i64 nn, .int .i64 oo] 37 := hw3 ▸ Box.new wr _ _
        rw [← hw3]
        clear hw3 a0 a1 a2 a3
        obtain ⟨c0, c1, c2, c3⟩ := bx.cells4
        have BX := Lib.hid bx
        have HR3 := Lib.hid (hrow.out.after hb3)
        have HB3 := Lib.hid (hb.out.trans (hb3.mono hb.out.size))
        have hlt3 := bx.lt
        have hlS := hrow.out.lt
        clear hb3 bx
        go_wp2_with fail
        refine (right_c ⟨kk, xx, nn, oo⟩ w3 HOK.out HOK.out.2.2.2).mono ?_
        rw [hdec.out]
        rintro e w4 ⟨rfl, hb4⟩
        have HB4 := Lib.hid (HB3.out.trans (hb4.mono HB3.out.size))
        clear hb4
        go_wp2_with fail
        go_ret2
        rw [hfin.out]
        exact ⟨rfl, HB4.out⟩
    · obtain rfl : k = n := by omega
      have hall : ∀ t ∈ ts, rightT t := fun t ht => by
        obtain ⟨j, hj, rfl⟩ := List.getElem_of_mem ht
        exact hr.out j hj (by rw [← HN.out]; exact hj)
      have hjl : (joinL [32] (ts.map Tok.text)).length = k - 1 + sumT ts k := by
        have h1 := joinL_len [32] (ts.map Tok.text)
        have h2 := sumT_all ts
        rw [HN.out] at h2
        rw [h1, h2, List.length_map, HN.out]
        unfold txts
        simp
      obtain ⟨S, hS⟩ : ∃ S, sumT ts k = S := ⟨_, rfl⟩
      rw [hS] at hsum hjl ⊢
      by_cases hlong : 4096 < k - 1 + S
      · have hfin : Hid (printF ts = ([], 3)) := printF_long hall (by rw [hjl]; exact hlong)
        clear hall hjl hS
        go_wp2_with fail
        go_ret2
        rw [hfin.out]
        exact ⟨rfl, hb.out⟩
      · have hfin : Hid (printF ts = (joinL [32] (ts.map Tok.text), 0)) := printF_ok hall (by rw [hjl]; exact hlong)
        have HJL := Lib.hid hjl
        obtain ⟨cs, r1, r2, r3, r4⟩ := hrow.out
        have hxl : (ts.map fun t => bs t.text).length = k := by rw [List.length_map, HN.out]
        have hjs : ((ts.map fun t => bs t.text).map (·.data.toList)) = ts.map Tok.text := by rw [List.map_map]; exact List.map_congr_left (fun t _ => rfl)
        have hcells : ∀ (j : Nat) x, (ts.map fun t => bs t.text)[j]? = some x → wr.cell? ⟨w.heap.size, 0 + j, none⟩ = some (.string x) := by
          intro j x hx
          rw [List.getElem?_map] at hx
          obtain ⟨t, ht, rfl⟩ := Option.map_eq_some_iff.1 hx
          have hj : j < ts.length := (List.getElem?_eq_some_iff.1 ht).1
          rw [Nat.zero_add, r1.cell, r4 j (by rw [← HN.out]; exact hj), tok_get hj]
          rw [List.getElem?_eq_getElem hj] at ht
          injection ht with ht
          rw [ht]
        have hjoin := Tryz.strings_Join w.heap.size 0 k (ts.map fun t => bs t.text) (bs [32]) wr hcells r1.lt (by rw [hxl]; omega) (by rw [hxl]; exact Nat.le_refl _) (by
          rw [hjs]
          show (Lib.join _ [32]).length ≤ _
          rw [← joinL_lib, hjl]; omega)
        rw [hjs, hxl] at hjoin
        have HJ : Hid (Calls Tryz.prog 116 #[.slice (some ⟨w.heap.size, 0, none⟩) k k, .string (bs [32])] wr fun e w' => e = .returned (.string (bs (joinL [32] (ts.map Tok.text)))) ∧ Below wr.heap.size wr w') := by
          rw [joinL_lib]; exact hjoin
        clear hall hjl hS r1 r2 r3 r4 hxl hjs hcells hjoin
        go_wp2_with fail
        refine HJ.out.mono ?_
        rintro e w3 ⟨rfl, hb3⟩
        have HB3 := Lib.hid (hb.out.trans (hb3.mono hb.out.size))
        clear hb3
        go_wp2_with fail
        go_ret2
        rw [hfin.out]
        exact ⟨rfl, HB3.out⟩
end Go.Proofs.YtganlldidjbpiaaGreatDoor

namespace Go.Proofs.YtganlldidjbpiaaGreatDoor
open Go.RowKit Go.Shelf

/-- Whether a clause of kind k has field f. -/
def hasF (k f : Nat) : Bool := (partsOf k).any fun p => p.2 == f
set_option maxRecDepth 100000 in
set_option maxHeartbeats 2000000 in
theorem field_c (w : World) (x : List UInt8) (k f b : Nat) (h : w.cell? ⟨b, 0, none⟩ = some (.int .u8 (f : Int))) : Calls Tryz.prog 56 #[.agg #[.string (bs x), .int .u8 (k : Int)], .pointer (some ⟨b, 0, none⟩)] w (RetB w (k == f)) := by
  have hlt : b < w.heap.size := World.block_lt_of_cell? _ _ h
  go_enter Tryz.func56, Tryz.ntmps56
  go_wp2_with fail
  go_ret
  exact ⟨ret_bool (beq_cast k f), held_alloc (Below.refl _ _)⟩
set_option maxRecDepth 100000 in
set_option maxHeartbeats 2000000 in
theorem has_c (D : Nat → Prop) (w : World) (k f b : Nat) (v : Value) (h : w.cell? ⟨b, 0, none⟩ = some v) (hp : SlP D w v (partsOf k)) : Calls Tryz.prog 54 #[.int .u8 (f : Int), .pointer (some ⟨b, 0, none⟩)] w (RetB w (hasF k f)) := by
  have hlt : b < w.heap.size := World.block_lt_of_cell? _ _ h
  have hmf := run_mkf
  obtain ⟨W0, hW⟩ : ∃ W0, W0 = w.alloc (.cells #[.int .u8 (f : Int)] 81) := ⟨_, rfl⟩
  have hb0 : Below w.heap.size w W0 := hW ▸ held_alloc (Below.refl _ w)
  have bx : Box W0 w.heap.size #[.int .u8 (f : Int)] 81 := hW ▸ Box.new w _ _
  have HC := Lib.hid (containsFP_c D W0 v (partsOf k) (fun p => p.2 == f) 56 #[.pointer (some ⟨w.heap.size, 0, none⟩)] (hp.after hb0) (enters_of Tryz.func56 (by kernel_rfl) rfl)
    (fun i hi W hW => field_c W _ _ f _ (keep_cell hW (bx.cell 0))))
  have hc := keep_cell hb0 h
  have hlt0 := World.block_lt_of_cell? _ _ hc
  simp only at hlt0
  have HB := Lib.hid hb0
  obtain ⟨B, hB⟩ : ∃ B, hasF k f = B := ⟨_, rfl⟩
  have hB' : (partsOf k).any (fun p => p.2 == f) = B := hB
  rw [hB'] at HC
  rw [hB]
  clear bx h hp hb0 hB hB'
  go_enter Tryz.func54, Tryz.ntmps54
  go_upto_region 1 with fail
  rw [← hW]
  clear hW
  go_wp2_with fail
  refine HC.out.mono ?_
  rintro e w1 ⟨rfl, hb1⟩
  have HB1 := Lib.hid (HB.out.trans (hb1.mono HB.out.size))
  clear hb1 hc
  go_wp2_with fail
  go_ret
  exact ⟨rfl, HB1.out⟩
/-- Whether a number is as it is asked for. -/
def rightB (n : Int) (asked : Bool) : Bool := decide (n = 0) || (asked && (decide (0 < n) && decide (n ≤ 999999999)))
set_option maxRecDepth 100000 in
set_option maxHeartbeats 2000000 in
theorem right_n (w : World) (n : Int) (asked : Bool) : Calls Tryz.prog 57 #[.int .i64 n, .bool asked] w (RetB w (rightB n asked)) := by
  by_cases h0 : n = 0
  · have HE : Hid (rightB n asked = true) := by show _ = _; unfold rightB; simp [h0]
    have q0 : (n == 0) = true := by simp [h0]
    rw [HE.out]
    clear h0 HE
    go_enter Tryz.func57, Tryz.ntmps57
    go_wp2_with fail
    go_ret
    exact ⟨rfl, Below.refl _ _⟩
  · have q0 : (n == 0) = false := by simp [h0]
    cases asked with
    | false =>
      have HE : Hid (rightB n false = false) := by show _ = _; unfold rightB; simp [h0]
      rw [HE.out]
      clear HE
      go_enter Tryz.func57, Tryz.ntmps57
      go_wp2_with fail
      go_ret
      exact ⟨rfl, Below.refl _ _⟩
    | true =>
      by_cases h1 : 0 < n
      · have q1 : decide (0 < n) = true := decide_eq_true h1
        by_cases h2 : n ≤ 999999999
        · have q2 : decide (n ≤ 999999999) = true := decide_eq_true h2
          have HE : Hid (rightB n true = true) := by show _ = _; unfold rightB; simp [h1, h2]
          rw [HE.out]
          clear HE
          go_enter Tryz.func57, Tryz.ntmps57
          go_wp2_with fail
          go_ret
          exact ⟨rfl, Below.refl _ _⟩
        · have q2 : decide (n ≤ 999999999) = false := decide_eq_false h2
          have HE : Hid (rightB n true = false) := by show _ = _; unfold rightB; simp [h0, h2]
          rw [HE.out]
          clear HE
          go_enter Tryz.func57, Tryz.ntmps57
          go_wp2_with fail
          go_ret
          exact ⟨rfl, Below.refl _ _⟩
      · have q1 : decide (0 < n) = false := decide_eq_false h1
        have HE : Hid (rightB n true = false) := by show _ = _; unfold rightB; simp [h0, h1]
        rw [HE.out]
        clear HE
        go_enter Tryz.func57, Tryz.ntmps57
        go_wp2_with fail
        go_ret
        exact ⟨rfl, Below.refl _ _⟩
/-- The index of a domain. -/
def domI (d : Nat) : Int := if 1 ≤ d ∧ d ≤ 5 then (d : Int) - 1 else -1
set_option maxRecDepth 100000 in
set_option maxHeartbeats 2000000 in
theorem indexD_c (D : Nat → Prop) (w : World) (v : Value) (d : Nat) (h : SlH D w v 5 1 (fun i _ => .int .u8 ((i + 1 : Nat) : Int))) :
    Calls Tryz.prog 48 #[v, .int .u8 (d : Int)] w fun e w' => e = .returned (.int .i64 (domI d)) ∧ Below w.heap.size w w' := by
  obtain ⟨p, c, rfl, h1, h2, _⟩ := h.shape
  have H := Lib.hid h
  clear h
  obtain ⟨z, hz⟩ : ∃ z, domI d = z := ⟨_, rfl⟩
  rw [hz]
  have HZ := Lib.hid hz
  clear hz
  go_enter Tryz.func48, Tryz.ntmps48
  go_wp2_with fail
  go_loopg [8] 5 (fun g t wx => ∃ i : Nat, i ≤ 5 ∧ g = 5 - i ∧ t = .int .i64 (i : Int) ∧ (d = 0 ∨ i < d) ∧ Hid (Below w.heap.size w wx))
  case atStart => exact ⟨0, by omega, rfl, rfl, by omega, Below.refl _ _⟩
  case round =>
    obtain ⟨i, hi, rfl, rfl, heq, hbl⟩ := hrel
    by_cases hlt : i < 5
    · obtain ⟨ba, oa, ca, ea, _, _, _, la, hca⟩ := (H.out.after hbl.out).at_ (by omega)
      injection ea with ea _ ec
      subst ea ec
      have x0 : wr.cell? ⟨ba, oa + i, none⟩ = some (.int .u8 ((i + 1 : Nat) : Int)) := by have := hca i hlt 0 (by omega); simpa using this
      clear hca
      have il : (i : Int) < 5 := by omega
      have i0 : (0 : Int) ≤ (i : Int) := by omega
      obtain ⟨j, hj⟩ : ∃ j, i + 1 = j := ⟨_, rfl⟩
      rw [hj] at x0
      have HJ := Lib.hid hj
      by_cases he : d = j
      · have q1 : ((d : Int) == (j : Int)) = true := by simp; omega
        have HE : Hid (z = (i : Int)) := by show _ = _; rw [← HZ.out]; unfold domI; rw [if_pos (by omega)]; omega
        clear he hj heq
        go_wp2_with fail
        go_ret
        exact ⟨ret_int HE.out.symm, hbl.out⟩
      · have q1 : ((d : Int) == (j : Int)) = false := by simp; omega
        have hnx : d = 0 ∨ i + 1 < d := by omega
        clear hj
        go_wp2_with fail
        go_roundg (5 - (i + 1))
        case measure => omega
        case rel => exact ⟨i + 1, by omega, rfl, by go_num, hnx, hbl.out⟩
    · obtain rfl : i = 5 := by omega
      have HE : Hid (z = -1) := by show _ = _; rw [← HZ.out]; unfold domI; rw [if_neg (by omega)]
      go_wp2_with fail
      go_ret
      exact ⟨ret_int HE.out.symm, hbl.out⟩
set_option maxRecDepth 100000 in
set_option maxHeartbeats 2000000 in
theorem containsD_c (D : Nat → Prop) (w : World) (v : Value) (d : Nat) (h : SlH D w v 5 1 (fun i _ => .int .u8 ((i + 1 : Nat) : Int))) :
    Calls Tryz.prog 58 #[v, .int .u8 (d : Int)] w (RetB w (decide (okDom d))) := by
  have HC := Lib.hid (indexD_c D w v d h)
  have HE : Hid (decide (0 ≤ domI d) = decide (okDom d)) := by
    show _ = _
    rw [decide_eq_decide]
    unfold domI okDom
    split <;> omega
  clear h
  go_enter Tryz.func58, Tryz.ntmps58
  go_wp2_with fail
  refine HC.out.mono ?_
  rintro e w1 ⟨rfl, hb⟩
  have HB := Lib.hid hb
  clear hb
  go_wp2_with fail
  go_ret
  exact ⟨ret_bool HE.out, HB.out⟩
theorem SlK.lit1 (w : World) {t : Tok} (h : TokOk t) : SlK (w.alloc (.cells #[.int .u8 (t.kind : Int), .string (bs t.text), .int .i64 t.num, .int .i64 t.off] 37)) (.slice (some ⟨w.heap.size, 0, none⟩) 1 1) [t] := by
  have bx := Box.new w #[.int .u8 (t.kind : Int), .string (bs t.text), .int .i64 t.num, .int .i64 t.off] 37
  refine ⟨by simpa using h, _, 1, rfl, by simp, by omega, (fun h => by cases h), fun _ => ⟨w.heap.size, 0, rfl, by simp, fun i hi => ?_⟩⟩
  obtain rfl : i = 0 := by simpa using hi
  obtain ⟨c0, c1, c2, c3⟩ := bx.cells4
  exact ⟨c0, c1, c2, c3⟩
set_option maxRecDepth 100000 in
set_option maxHeartbeats 2000000 in
theorem proper_c (N : Nat) (w : World) (s : List UInt8) (hs : s.length ≤ 9223372036854775807) (hN : N ≤ w.heap.size) (he : Wds N w) : Calls Tryz.prog 60 #[.string (bs s)] w (RetB w (decide (okName s))) := by
  obtain ⟨Wa, hWa⟩ : ∃ Wa, Wa = w.alloc (.cells #[.int .u8 1, .string (bs s), .int .i64 0, .int .i64 0] 37) := ⟨_, rfl⟩
  have hba : Below w.heap.size w Wa := hWa ▸ held_alloc (Below.refl _ w)
  have bxa : Box Wa w.heap.size #[.int .u8 1, .string (bs s), .int .i64 0, .int .i64 0] 37 := hWa ▸ Box.new w _ _
  have htk : TokOk ⟨1, s, 0, 0⟩ := ⟨show 1 < 256 by omega, In64.zero, In64.zero, hs⟩
  obtain ⟨W0, hW0⟩ : ∃ W0, W0 = Wa.alloc (.cells #[.int .u8 1, .string (bs s), .int .i64 0, .int .i64 0] 37) := ⟨_, rfl⟩
  have hb0 : Below Wa.heap.size Wa W0 := hW0 ▸ held_alloc (Below.refl _ Wa)
  have HK : Hid (SlK W0 (.slice (some ⟨Wa.heap.size, 0, none⟩) 1 1) [⟨1, s, 0, 0⟩]) := hW0 ▸ SlK.lit1 Wa htk
  have hsa : Wa.heap.size = w.heap.size + 1 := by rw [hWa]; simp
  rw [hsa] at HK
  have hB0 : Below w.heap.size w W0 := hba.trans (hb0.mono (by omega))
  have HB0 := Lib.hid hB0
  have HE0 := Lib.hid (he.after hB0)
  have bx := bxa.after hb0
  have BX := Lib.hid bx
  obtain ⟨c0, c1, c2, c3⟩ := bx.cells4
  have hl0 := bx.lt
  clear hba bxa hb0 hB0 he bx hsa
  obtain ⟨B, hB⟩ : ∃ B, decide (okName s) = B := ⟨_, rfl⟩
  rw [hB]
  have HBQ := Lib.hid hB
  clear hB
  go_enter Tryz.func60, Tryz.ntmps60
  go_wp2_with fail
  rw [← hWa, ← hW0]
  clear hWa hW0
  refine (Print_c W0 _ [⟨1, s, 0, 0⟩] HK.out (by simp)).mono ?_
  rintro e w1 ⟨rfl, hb1⟩
  have HB1 := Lib.hid (HB0.out.trans (hb1.mono HB0.out.size))
  have HE1 := Lib.hid (HE0.out.after hb1)
  replace c0 := keep_cell hb1 c0
  replace c1 := keep_cell hb1 c1
  replace c2 := keep_cell hb1 c2
  replace c3 := keep_cell hb1 c3
  have hl1 : w.heap.size < w1.heap.size := Nat.lt_of_lt_of_le hl0 hb1.size
  clear hb1 hl0
  by_cases hr : rightT ⟨1, s, 0, 0⟩
  · have h12 := rightT_len hr
    have hp : printF [⟨1, s, 0, 0⟩] = (s, 0) := by
      unfold printF
      rw [if_pos (by simpa using hr), if_neg (by simp [joinL]; simp at h12; omega)]
      simp [joinL]
    rw [hp]
    have HE : Hid (namedT ⟨1, s, 0, 0⟩ = B) := by
      show _ = _
      rw [← HBQ.out]
      unfold namedT okName
      simp [hr]
    clear hr h12 hp
    go_wp2_with fail
    refine (named_c N w1 ⟨1, s, 0, 0⟩ (by omega) HE1.out).mono ?_
    rw [HE.out]
    rintro e w2 ⟨rfl, hb2⟩
    have HB2 := Lib.hid (HB1.out.trans (hb2.mono HB1.out.size))
    clear hb2 c0 c1 c2 c3
    go_wp2_with fail
    go_ret
    exact ⟨rfl, HB2.out⟩
  · have hp : printF [⟨1, s, 0, 0⟩] = ([], 1) := by
      unfold printF
      rw [if_neg (by simpa using hr)]
    rw [hp]
    have HE : Hid (B = false) := by
      show _ = _
      rw [← HBQ.out]
      exact decide_eq_false (fun h => hr h.1)
    clear hr hp
    go_wp2_with fail
    go_ret
    rw [HE.out]
    exact ⟨rfl, HB1.out⟩
end Go.Proofs.YtganlldidjbpiaaGreatDoor

namespace Go.Proofs.YtganlldidjbpiaaGreatDoor
open Go.RowKit

/-- strconv's table of powers. -/
def Tab10 (w : World) : Prop := Lib.TabIs Tryz.prog w "internal/strconv.uint64pow10" .u64 Lib.pow10Tab
theorem Tab10.after {w w' : World} (h : Tab10 w) (hb : Below w.heap.size w w') : Tab10 w' := Joins.tab_stays (g := 3) (by kernel_rfl) h hb (Nat.le_refl _)
theorem itoa_n (w : World) (z : Int) (h0 : 0 ≤ z) (h1 : z ≤ 9223372036854775807) (he : Tab10 w) : Calls Tryz.prog 47 #[.int .i64 z] w fun e w' => e = .returned (.string (bs (numW z))) ∧ Below w.heap.size w w' := by
  refine (Tryz.strconv_Itoa z (by omega) h1 w he).mono ?_
  rintro e w' ⟨rfl, k, os, rfl⟩
  exact ⟨by unfold Lib.itoa; rw [if_neg (by omega)]; rfl, Lib.below_grow _ _ (Nat.le_refl _) _ _⟩
theorem flatten_one (l : List (List UInt8)) : (l.map fun n => [Value.string (bs n)]).flatten = l.map fun n => Value.string (bs n) := by
  induction l with
  | nil => rfl
  | cons n l ih => rw [List.map_cons, List.flatten_cons, ih]; rfl
theorem SlN.news {D : Nat → Prop} {w : World} {l : List (List UInt8)} {ad : Addr} {n cap : Nat} (h : SlN D w (.slice (some ad) n cap) l) : ∀ j u, (l.map fun n => Value.string (bs n))[j]? = some u → w.cell? (ad.add j) = some u := by
  intro j u hu
  have hj : j < l.length := by
    rcases Nat.lt_or_ge j l.length with hj | hj
    · exact hj
    · rw [List.getElem?_eq_none (by simpa using hj)] at hu; cases hu
  obtain ⟨b, off, cp, e, _, _, _, _, hc⟩ := h.2.at_ (by omega)
  injection e with e1 e2 e3
  injection e1 with e1
  subst e1
  have := hc j hj 0 (by omega)
  rw [List.getElem?_map, List.getElem?_eq_getElem hj] at hu
  rw [add_off, ← hu]
  rw [show off + j * 1 + 0 = off + j by omega] at this
  rw [this, List.getD_eq_getElem?_getD, List.getElem?_eq_getElem hj]
  rfl
/-- append(l, m...) of a row of words of the call's own and whatever slice of words. -/
theorem run_appN {D : Nat → Prop} (w : World) (base : Nat) (ty : TypeId) (v u : Value) (l m : List (List UInt8)) (hown : OwnN w base v l) (hm : SlN D w u m) (hl : l.length + m.length ≤ 1000000) (hbase : base ≤ w.heap.size) :
    ∃ v' w', (Builtin.append_ #[40, 40] ty #[v, u]).run Tryz.prog w = .ok v' w' ∧ OwnN w' base v' (l ++ m) ∧ Fx (fun b => some b = v.ownBlock) w w' ∧ Below base w w' := by
  obtain ⟨i0, hi, hz0, hz1, hz2⟩ := info_parts infoS
  have hin : ∀ z ∈ l ++ m, z.length ≤ 9223372036854775807 := fun z hz => (List.mem_append.1 hz).elim (hown.1 z) (hm.1 z)
  obtain ⟨p, cap, rfl, h2, h3, h5⟩ := hm.2.shape
  rcases p with _ | ad
  · have hz := h5 rfl
    have hl0 : m = [] := List.length_eq_zero_iff.1 (by omega)
    subst hl0; subst hz
    obtain ⟨q, c, rfl, hc, _⟩ := hown.shape
    have hc' : l.length + 0 ≤ c := by omega
    refine ⟨_, w, ?_, by simpa using hown, Fx.refl _ w, Below.refl _ w⟩
    simp [Builtin.append_, run_underlying Tryz.underlying40, Builtin.lenOf, Builtin.firstCells, hc]
    cases q <;> rfl
  · have hlen := hown.2.2.1
    have hown2 : w.ownsRow base 9 1 v l.length (l.map fun n => Value.string (bs n)) := by
      have := hown.2.2
      rw [flatten_one, List.length_map] at this
      exact this
    obtain ⟨v', w', hr, q1, q2, _, q4⟩ := run_append_own_at (P := Tryz.prog) w base 40 ty 9 i0 _ 1 16 Tryz.underlying40 hi hz0 hz1 hz2 rfl (by decide) v l.length _ hown2 ad m.length cap (m.map fun n => Value.string (bs n)) (by simp) hm.news (fun u hu => by obtain ⟨x, _, rfl⟩ := List.mem_map.1 hu; rfl) (by have : maxLen = 9223372036854775807 := rfl; omega) (by omega) hbase
    refine ⟨v', w', hr, ⟨hin, by intro r hr; obtain ⟨x, _, rfl⟩ := List.mem_map.1 hr; rfl, ?_⟩, Fx.grown q2, (Below.refl _ w).grown q2 hbase (fun k hk => (hown2.lt k hk).1)⟩
    rw [flatten_one, List.length_map, List.length_append, List.map_append]
    exact q1
theorem wpList_appN {D : Nat → Prop} {w : World} {ops : Array Oper} {rest : List Oper} {o : Oper} {a : Act} {Q : Exit → Act → World → Prop} (hgd : o.guard = none) (s x : Operand)
    (ho : o.op = .call { callee := .builtin .append, args := #[s, x], argTypes := #[40, 40] })
    (base : Nat) (v u : Value) (l m : List (List UInt8)) (hs : a.eval s = v) (hown : OwnN w base v l) (hx : a.eval x = u) (hm : SlN D w u m) (hl : l.length + m.length ≤ 1000000) (hbase : base ≤ w.heap.size)
    (h : ∀ v' w', OwnN w' base v' (l ++ m) → Fx (fun b => some b = v.ownBlock) w w' → Below base w w' → wpList Tryz.prog ops Q rest (a.put o.dst v') w') :
    wpList Tryz.prog ops Q (o :: rest) a w := by
  refine wpList_plain hgd fun K hK => ?_
  obtain ⟨v', w', hr, h2, h3, h4⟩ := run_appN w base o.type v u l m hown hm hl hbase
  unfold Oper.wp execOp
  simp only [ho, resolve, invoke, builtin, Sem.run_bind, Sem.run_pure, Result.andThen_ok, List.map_toArray, List.map_cons, List.map_nil, hs, hx, hr]
  exact hK _ _ (h v' w' h2 h3 h4)
theorem SlN.one (w : World) (n : List UInt8) (hn : n.length ≤ 9223372036854775807) : SlN (fun _ => True) (w.alloc (.cells #[.string (bs n)] 9)) (.slice (some ⟨w.heap.size, 0, none⟩) 1 1) [n] := (OwnN.one w 0 n hn (Nat.zero_le _)).slN.mono (fun _ _ _ => trivial)

/-! the words of a clause, part by part -/
def nameW : List (List UInt8) → List (List UInt8)
  | [] => []
  | n :: l => n :: commas l
def fieldW (c : Cl) (f : Nat) : List (List UInt8) := if f = 1 ∨ f = 2 then nameW c.names else if f = 3 then [numW c.idx] else if f = 4 then [numW c.a] else if f = 5 then [numW c.b] else if f = 6 then [domW c.dom] else []
def wordW (x : List UInt8) : List (List UInt8) := if x = [] then [] else [x]
def textsP (c : Cl) (it : List (List UInt8)) : List (List UInt8 × Nat) → List (List UInt8)
  | [] => [sSemi]
  | (x, f) :: ps => if f = 7 then wordW x ++ (sOpen :: (it ++ [sClose])) else wordW x ++ (fieldW c f ++ textsP c it ps)
/-- The words of a clause, its items' words given. -/
def textsG (c : Cl) (it : List (List UInt8)) : List (List UInt8) := kindW c.kind :: textsP c it (partsOf c.kind)
theorem textsG_I {c : Cl} (h : formI c) : textsG c [] = textsI c := by
  obtain ⟨hk, _, _, _, _, hn, _, _⟩ := h
  have hk' : c.kind = 6 ∨ c.kind = 7 ∨ c.kind = 8 ∨ c.kind = 9 ∨ c.kind = 10 ∨ c.kind = 11 ∨ c.kind = 12 := by omega
  unfold textsG textsI
  rcases hk' with e | e | e | e | e | e | e <;> rw [e] <;> rw [e] at hn
  case inr.inr.inr.inr.inl =>
    cases hc : c.names with
    | nil => exact absurd hc (by simpa using hn)
    | cons n l => simp [partsOf, textsP, wordW, fieldW, nameW, kindW, hc]
  case inr.inr.inr.inr.inr.inl =>
    cases hc : c.names with
    | nil => rw [hc] at hn; exact absurd hn (by simp)
    | cons n l =>
      rw [hc] at hn
      have hl : l = [] := by have : (n :: l).length = 1 := by simpa using hn
                             exact List.length_eq_zero_iff.1 (by simpa using this)
      subst hl
      simp [partsOf, textsP, wordW, fieldW, nameW, kindW, hc, commas, sWithin]
  all_goals simp [partsOf, textsP, wordW, fieldW, kindW, sPer]
theorem textsG_T {c : Cl} (h : formT c) : textsG c (c.items.flatMap textsI) = textsT c := by
  obtain ⟨hk, _, _, _, _, hn, _, _⟩ := h
  have hk' : c.kind = 1 ∨ c.kind = 2 ∨ c.kind = 3 ∨ c.kind = 4 ∨ c.kind = 5 := by omega
  unfold textsG textsT
  rcases hk' with e | e | e | e | e <;> rw [e] <;> rw [e] at hn
  case inl =>
    cases hc : c.names with
    | nil => rw [hc] at hn; exact absurd hn (by simp)
    | cons n l =>
      rw [hc] at hn
      have hl : l = [] := by have : (n :: l).length = 1 := by simpa using hn
                             exact List.length_eq_zero_iff.1 (by simpa using this)
      subst hl
      simp [partsOf, textsP, wordW, fieldW, nameW, kindW, hc, commas]
  all_goals simp [partsOf, textsP, wordW, fieldW, kindW, sFrom, sTo, sFeed, sAt]
end Go.Proofs.YtganlldidjbpiaaGreatDoor

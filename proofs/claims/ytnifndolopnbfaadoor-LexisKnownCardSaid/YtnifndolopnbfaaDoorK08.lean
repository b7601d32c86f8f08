/- Arguments that are slices of tokens, or strings. -/
import Derived.Test.YtnifndolopnbfaaDoorK02
import Derived.Deep.Slices
import Derived.Lib.SmallJoins
import Derived.OpenShut
set_option linter.unusedVariables false
namespace Go.Proofs.YtnifndolopnbfaaDoor
open Go.RowKit Go.ChangeShapes Go.WideShapes Go.Deep

theorem cells_token : Tryd.prog.cellsOf 34 = 4 := by kernel_rfl
theorem cells_kind : Tryd.prog.cellsOf 32 = 1 := by kernel_rfl
theorem cells_int : Tryd.prog.cellsOf 3 = 1 := by kernel_rfl
theorem cells_string : Tryd.prog.cellsOf 9 = 1 := by kernel_rfl
theorem wf_u8 {n : Int} (h : (Lit.int .u8 n).wf = true) : ∃ m : Nat, n = m ∧ m < 256 := by
  have h1 : IntKind.u8.min = 0 := rfl
  have h2 : IntKind.u8.max = 255 := rfl
  simp [Lit.wf, h1, h2] at h
  exact ⟨n.toNat, by omega, by omega⟩
theorem wf_i64 {n : Int} (h : (Lit.int .i64 n).wf = true) : In64 n := by
  have h1 : IntKind.i64.min = -9223372036854775808 := rfl
  have h2 : IntKind.i64.max = 9223372036854775807 := rfl
  simp [Lit.wf, h1, h2] at h
  exact h
set_option maxRecDepth 100000 in
/-- The cells of a token that came in. -/
theorem tok_of_cells {H : Type} {enc : TypeId × Value → H} {W : World} {n : Nat} {cs : List Value} {y : DataW H × List MemPlace} (h : DataW.trod enc Tryd.prog W 0 (fun _ => true) true n 34 cs = some y) :
    ∃ t : Tok, TokOk t ∧ cs = cellsOf t := by
  obtain ⟨y0, y1, y2, y3, m, _, hl, h0, h1, h2, h3⟩ := Joins.trod_struct4 Tryd.underlying34 h
  match cs, hl.trans cells_token with
  | [c0, c1, c2, c3], _ =>
    simp [cells_kind, cells_int, cells_string] at h0 h1 h2 h3
    obtain ⟨z0, e0, _, w0⟩ := DataW.trod_int Tryd.underlying32 h0
    obtain ⟨s, e1, _, hs⟩ := DataW.trod_string Tryd.underlying9 h1
    obtain ⟨z2, e2, _, w2⟩ := DataW.trod_int Tryd.underlying3 h2
    obtain ⟨z3, e3, _, w3⟩ := DataW.trod_int Tryd.underlying3 h3
    obtain ⟨k, rfl, hk⟩ := wf_u8 w0
    obtain rfl : c0 = .int .u8 (k : Int) := by simpa using e0
    obtain rfl : c1 = .string s := by simpa using e1
    obtain rfl : c2 = .int .i64 z2 := by simpa using e2
    obtain rfl : c3 = .int .i64 z3 := by simpa using e3
    refine ⟨⟨k, s.data.toList, z2, z3⟩, ⟨hk, wf_i64 w2, wf_i64 w3, ?_⟩, ?_⟩
    · rw [size_len]; unfold maxLen at hs; exact hs
    · unfold cellsOf; rw [bs_self]
theorem choose_list {α : Type} {p : Nat → α → Prop} : ∀ n : Nat, (∀ i, i < n → ∃ x, p i x) → ∃ l : List α, l.length = n ∧ ∀ i (h : i < l.length), p i l[i]
  | 0, _ => ⟨[], rfl, fun i h => by simp at h⟩
  | n + 1, h => by
    obtain ⟨l, hl, hp⟩ := choose_list n (fun i hi => h i (by omega))
    obtain ⟨x, hx⟩ := h n (by omega)
    refine ⟨l ++ [x], by simp [hl], fun i hi => ?_⟩
    rcases Nat.lt_or_ge i l.length with h1 | h1
    · rw [List.getElem_append_left h1]; exact hp i h1
    · have : i = n := by simp at hi; omega
      subst this
      rw [List.getElem_append_right h1]
      simpa [hl] using hx
/-- An argument that is a slice of tokens. -/
theorem open_tokens {H : Type} {enc : TypeId × Value → H} {W : World} {base : Nat} {v : Value} {d : DataW H} {p : List MemPlace} (hv : Value.okWide Tryd.prog W .any base 22 v) (h : DataW.Trod enc Tryd.prog W 0 (fun _ => true) true 22 v d p) :
    ∃ ts : List Tok, SlK W v ts := by
  obtain ⟨a0, len0, cap0, rfl⟩ := okWide_slice Tryd.underlying22 hv
  obtain ⟨fuel, hf⟩ := h
  have hf : DataW.trod enc Tryd.prog W 0 (fun _ => true) true fuel 22 [.slice a0 len0 cap0] = some (d, p) := by simpa [Value.cells] using hf
  rcases open_slice Tryd.underlying22 hf with ⟨hc, _⟩ | ⟨a, len, cap, m, n, D, Pl, hc, _, hl, hm, hmm, _, hi⟩
  · obtain ⟨rfl, rfl, rfl⟩ : a0 = none ∧ len0 = 0 ∧ cap0 = 0 := by simpa using hc
    exact ⟨[], SlK.nil W⟩
  · obtain ⟨rfl, rfl, rfl⟩ : a0 = some a ∧ len0 = len ∧ cap0 = cap := by simpa using hc
    have hlm : len0 ≤ m := by rw [hmm]; simp [hl]
    obtain ⟨ts, htl, hts⟩ := choose_list (α := Tok) (p := fun i t => TokOk t ∧ ∀ j, j < 4 → W.cell? (a.add (i * 4 + j)) = (cellsOf t)[j]?) len0 (fun i hil => by
      obtain ⟨cs', hcs, htr⟩ := hi i (by omega)
      rw [cells_token] at hcs
      obtain ⟨_, hlen, hat⟩ := World.cells?_some hcs
      obtain ⟨t, hok, rfl⟩ := tok_of_cells htr
      refine ⟨t, hok, fun j hj => ?_⟩
      rw [← hat j hj, Go.Deep.add_add])
    refine ⟨ts, fun t ht => ?_, some a, cap0, by rw [htl], by rw [htl]; exact hl, by unfold maxLen at hm; exact hm, (fun h => by cases h), fun h0 => ?_⟩
    · obtain ⟨i, hi, rfl⟩ := List.getElem_of_mem ht
      exact (hts i hi).1
    · have hs : a.spot = none := by
        have := (hts 0 h0).2 0 (by omega)
        simpa [Addr.add] using World.cell?_spot (this.trans rfl)
      obtain ⟨b, off, spot⟩ := a
      simp only at hs
      subst hs
      refine ⟨b, off, rfl, ?_, fun i hi => ?_⟩
      · have := (hts 0 h0).2 0 (by omega)
        rw [add_off] at this
        exact World.block_lt_of_cell? _ _ (this.trans rfl)
      · have hc := (hts i hi).2
        rw [tok_get hi]
        have c0 := hc 0 (by omega)
        have c1 := hc 1 (by omega)
        have c2 := hc 2 (by omega)
        have c3 := hc 3 (by omega)
        rw [add_off] at c0 c1 c2 c3
        exact ⟨c0, by rw [Nat.add_assoc]; exact c1, by rw [Nat.add_assoc]; exact c2, by rw [Nat.add_assoc]; exact c3⟩
end Go.Proofs.YtnifndolopnbfaaDoor

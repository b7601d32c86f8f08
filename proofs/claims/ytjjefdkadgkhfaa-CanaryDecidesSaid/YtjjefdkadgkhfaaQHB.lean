/- Arguments that are rollouts by small numbers, or pairs of small numbers. -/
import Derived.Test.YtjjefdkadgkhfaaQG2
import Derived.Test.YtjjefdkadgkhfaaK27
import Derived.OpenShut
set_option linter.unusedVariables false
namespace Go.Proofs.Ytjjefdkadgkhfaa
open Go.RowKit Go.ChangeShapes Go.WideShapes

theorem small_nat {n : Int} (h : (Lit.int .u8 n).wf = true) : ∃ m : Nat, n = m ∧ m < 256 := by
  have h1 : IntKind.u8.min = 0 := rfl
  have h2 : IntKind.u8.max = 255 := rfl
  simp [Lit.wf, h1, h2] at h
  exact ⟨n.toNat, by omega, by omega⟩
theorem cells_u8 : Try.prog.cellsOf 5 = 1 := by kernel_rfl
theorem cells_u8s : Try.prog.cellsOf 22 = 1 := by kernel_rfl
theorem cells_pair : Try.prog.cellsOf 23 = 2 := by kernel_rfl
theorem cells_small : Try.prog.cellsOf 25 = 6 := by kernel_rfl
theorem array2 {α : Type} {cs : Array α} (h : cs.size = 2) : ∃ c0 c1, cs = #[c0, c1] := by
  obtain ⟨l⟩ := cs
  match l, h with
  | [c0, c1], _ => exact ⟨c0, c1, rfl⟩
theorem array6 {α : Type} {cs : Array α} (h : cs.size = 6) : ∃ c0 c1 c2 c3 c4 c5, cs = #[c0, c1, c2, c3, c4, c5] := by
  obtain ⟨l⟩ := cs
  match l, h with
  | [c0, c1, c2, c3, c4, c5], _ => exact ⟨c0, c1, c2, c3, c4, c5, rfl⟩
theorem small_of_cell {H : Type} {enc : TypeId × Value → H} {W : World} {n : Nat} {v : Value} {y : DataW H × List MemPlace} (h : DataW.trod enc Try.prog W 0 (fun _ => true) true n 5 [v] = some y) : ∃ a : Nat, v = .int .u8 (a : Int) ∧ a < 256 := by
  obtain ⟨z, hz, _, hw⟩ := DataW.trod_int Try.underlying5 h
  obtain ⟨a, rfl, ha⟩ := small_nat hw
  exact ⟨a, by simpa using hz, ha⟩
set_option maxRecDepth 100000 in
theorem pair_of_cells {H : Type} {enc : TypeId × Value → H} {W : World} {n : Nat} {v0 v1 : Value} {y : DataW H × List MemPlace} (h : DataW.trod enc Try.prog W 0 (fun _ => true) true n 23 [v0, v1] = some y) : ∃ a b : Nat, v0 = .int .u8 (a : Int) ∧ v1 = .int .u8 (b : Int) ∧ a < 256 ∧ b < 256 := by
  obtain ⟨xs, m, _, _, _, hl, hi⟩ := DataW.trod_array Try.underlying23 h
  match xs, hl with
  | [y0, y1], _ =>
    have h0 := hi 0 (by omega)
    have h1 := hi 1 (by omega)
    simp [cells_u8] at h0 h1
    obtain ⟨a, rfl, ha⟩ := small_of_cell h0
    obtain ⟨b, rfl, hb⟩ := small_of_cell h1
    exact ⟨a, b, rfl, rfl, ha, hb⟩
set_option maxRecDepth 100000 in
theorem open_pair {H : Type} {enc : TypeId × Value → H} {W : World} {base : Nat} {v : Value} {d : DataW H} {p : List MemPlace} (hv : Value.okWide Try.prog W .any base 23 v) (h : DataW.Trod enc Try.prog W 0 (fun _ => true) true 23 v d p) : ∃ a b : Nat, v = .agg #[.int .u8 (a : Int), .int .u8 (b : Int)] ∧ a < 256 ∧ b < 256 := by
  simp only [Value.okWide, Try.underlying23] at hv
  obtain ⟨cs, rfl, hsz, _⟩ := hv
  obtain ⟨c0, c1, rfl⟩ := array2 (hsz.trans cells_pair)
  obtain ⟨fuel, hf⟩ := h
  obtain ⟨a, b, rfl, rfl, ha, hb⟩ := pair_of_cells (by simpa [Value.cells] using hf)
  exact ⟨a, b, rfl, ha, hb⟩
set_option maxRecDepth 100000 in
theorem slU_of_arg {H : Type} {enc : TypeId × Value → H} {W : World} {n : Nat} {v : Value} {y : DataW H × List MemPlace} (h : DataW.trod enc Try.prog W 0 (fun _ => true) true n 22 [v] = some y) : ∃ ws : List Nat, (∀ z ∈ ws, z < 256) ∧ SlV W v (ws.map fun z => .int .u8 ((z : Nat) : Int)) := by
  rcases open_ints Try.underlying22 Try.underlying5 cells_u8 h with ⟨hc, _⟩ | ⟨a, len, cap, zs, hc, _, hl, hm, hz, _, hcell, hw⟩
  · obtain rfl : v = .slice none 0 0 := by simpa using hc
    exact ⟨[], by simp, SlV.nil W⟩
  · obtain rfl : v = .slice (some a) len cap := by simpa using hc
    simp at hz
    have hlen : (((zs.take len).map Int.toNat).map fun z => Value.int .u8 ((z : Nat) : Int)).length = len := by simp; omega
    refine ⟨(zs.take len).map Int.toNat, ?_, some a, cap, by rw [hlen], by rw [hlen]; exact hl, by unfold maxLen at hm; exact hm, (fun h => by cases h), fun h0 => ?_⟩
    · intro z hz'
      obtain ⟨u, hu, rfl⟩ := List.mem_map.1 hz'
      obtain ⟨m, rfl, hm⟩ := small_nat (hw u (List.mem_of_mem_take hu))
      simpa using hm
    rw [hlen] at h0
    have hs : a.spot = none := by
      have := hcell 0 (by omega)
      simpa [Addr.add] using World.cell?_spot this
    obtain ⟨b, off, spot⟩ := a
    simp only at hs
    subst hs
    refine ⟨b, off, rfl, ?_, fun i c hi => ?_⟩
    · have := hcell 0 (by omega)
      rw [add_off] at this
      exact World.block_lt_of_cell? _ _ this
    · have hil : i < len := by
        rcases Nat.lt_or_ge i len with h | h
        · exact h
        · rw [List.getElem?_eq_none (by rw [hlen]; exact h)] at hi; cases hi
      have hc := hcell i (by omega)
      rw [add_off] at hc
      rw [hc, ← hi]
      have hiz : i < zs.length := by omega
      obtain ⟨m, hm, _⟩ := small_nat (hw zs[i] (List.getElem_mem hiz))
      rw [List.getElem?_map, List.getElem?_map, List.getElem?_take, if_pos hil, List.getElem?_eq_getElem hiz]
      simp [List.getD, hiz, hm]
set_option maxRecDepth 100000 in
/-- An argument that is a rollout by small numbers. -/
theorem open_small {H : Type} {enc : TypeId × Value → H} {W : World} {base : Nat} {v : Value} {d : DataW H} {p : List MemPlace} (hv : Value.okWide Try.prog W .any base 25 v) (h : DataW.Trod enc Try.prog W 0 (fun _ => true) true 25 v d p) : ∃ (h : Nat) (ws : List Nat) (r0 r1 b0 b1 : Nat), IsS W v h ws r0 r1 b0 b1 := by
  obtain ⟨cs, rfl, hsz⟩ := okWide_struct Try.underlying25 hv
  obtain ⟨c0, c1, c2, c3, c4, c5, rfl⟩ := array6 (hsz.trans cells_small)
  obtain ⟨fuel, hf⟩ := h
  obtain ⟨y0, y1, y2, y3, n, _, _, h0, h1, h2, h3⟩ := Joins.trod_struct4 Try.underlying25 hf
  simp [Value.cells, cells_u8, cells_u8s, cells_pair] at h0 h1 h2 h3
  obtain ⟨hh, rfl, kh⟩ := small_of_cell h0
  obtain ⟨ws, kw, hw⟩ := slU_of_arg h1
  obtain ⟨r0, r1, rfl, rfl, k0, k1⟩ := pair_of_cells h2
  obtain ⟨b0, b1, rfl, rfl, k2, k3⟩ := pair_of_cells h3
  exact ⟨hh, ws, r0, r1, b0, b1, ⟨kh, kw, k0, k1, k2, k3⟩, c1, rfl, hw⟩
end Go.Proofs.Ytjjefdkadgkhfaa

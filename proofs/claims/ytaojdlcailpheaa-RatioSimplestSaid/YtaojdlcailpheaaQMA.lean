/- Arguments that are six small numbers. -/
import Derived.Test.YtaojdlcailpheaaK29
import Derived.Lib.SmallJoins
import Derived.OpenShut
set_option linter.unusedVariables false
namespace Go.Proofs.Ytaojdlcailpheaa
open Go.RowKit Go.ChangeShapes Go.WideShapes

theorem i16_wf {n : Int} (h : (Lit.int .i16 n).wf = true) : -32768 ≤ n ∧ n ≤ 32767 := by
  have h1 : IntKind.i16.min = -32768 := rfl
  have h2 : IntKind.i16.max = 32767 := rfl
  simp [Lit.wf, h1, h2] at h
  omega
theorem cells_i16 : Try.prog.cellsOf 45 = 1 := by kernel_rfl
theorem cells_six : Try.prog.cellsOf 47 = 6 := by kernel_rfl
theorem array6r {α : Type} {cs : Array α} (h : cs.size = 6) : ∃ c0 c1 c2 c3 c4 c5, cs = #[c0, c1, c2, c3, c4, c5] := by
  obtain ⟨l⟩ := cs
  match l, h with
  | [c0, c1, c2, c3, c4, c5], _ => exact ⟨c0, c1, c2, c3, c4, c5, rfl⟩
theorem i16_of_cell {H : Type} {enc : TypeId × Value → H} {W : World} {n : Nat} {v : Value} {y : DataW H × List MemPlace} (h : DataW.trod enc Try.prog W 0 (fun _ => true) true n 45 [v] = some y) : ∃ a : Int, v = .int .i16 a ∧ -32768 ≤ a ∧ a ≤ 32767 := by
  obtain ⟨z, hz, _, hw⟩ := DataW.trod_int Try.underlying45 h
  have := i16_wf hw
  exact ⟨z, by simpa using hz, this.1, this.2⟩
set_option maxRecDepth 100000 in
/-- An argument that is six small numbers. -/
theorem open_six {H : Type} {enc : TypeId × Value → H} {W : World} {base : Nat} {v : Value} {d : DataW H} {p : List MemPlace} (hv : Value.okWide Try.prog W .any base 47 v) (h : DataW.Trod enc Try.prog W 0 (fun _ => true) true 47 v d p) :
    ∃ a b c d e f : Int, v = .agg #[.int .i16 a, .int .i16 b, .int .i16 c, .int .i16 d, .int .i16 e, .int .i16 f] ∧ (-32768 ≤ a ∧ a ≤ 32767) ∧ (-32768 ≤ b ∧ b ≤ 32767) ∧ (-32768 ≤ c ∧ c ≤ 32767) ∧ (-32768 ≤ d ∧ d ≤ 32767) ∧ (-32768 ≤ e ∧ e ≤ 32767) ∧ (-32768 ≤ f ∧ f ≤ 32767) := by
  obtain ⟨cs, rfl, hsz⟩ := okWide_struct Try.underlying47 hv
  obtain ⟨c0, c1, c2, c3, c4, c5, rfl⟩ := array6r (hsz.trans cells_six)
  obtain ⟨fuel, hf⟩ := h
  obtain ⟨xs, n, _, _, _, hlen, hi⟩ := DataW.trod_struct Try.underlying47 hf
  match xs, hlen with
  | [y0, y1, y2, y3, y4, y5], _ =>
    have h0 := hi 0 _ rfl
    have h1 := hi 1 _ rfl
    have h2 := hi 2 _ rfl
    have h3 := hi 3 _ rfl
    have h4 := hi 4 _ rfl
    have h5 := hi 5 _ rfl
    simp [Value.cells, cells_i16] at h0 h1 h2 h3 h4 h5
    obtain ⟨a, rfl, ha⟩ := i16_of_cell h0
    obtain ⟨b, rfl, hb⟩ := i16_of_cell h1
    obtain ⟨c, rfl, hc⟩ := i16_of_cell h2
    obtain ⟨d, rfl, hd⟩ := i16_of_cell h3
    obtain ⟨e, rfl, he⟩ := i16_of_cell h4
    obtain ⟨f, rfl, hff⟩ := i16_of_cell h5
    exact ⟨a, b, c, d, e, f, rfl, ha, hb, hc, hd, he, hff⟩
end Go.Proofs.Ytaojdlcailpheaa

/- Arguments that are records, or slices of records. -/
import Derived.Test.YtpaoeeamlinaaaaGreatDoorK08
import Derived.Deep.Slices
import Derived.Lib.SmallJoins
import Derived.OpenShut
set_option linter.unusedVariables false
namespace Go.Proofs.YtpaoeeamlinaaaaGreatDoor
open Go.RowKit Go.ChangeShapes Go.WideShapes Go.Deep

theorem add_off {b off : Nat} (j : Nat) : (⟨b, off, none⟩ : Addr).add j = ⟨b, off + j, none⟩ := by unfold Addr.add; split <;> simp_all
theorem wf_u8 {n : Int} (h : (Lit.int .u8 n).wf = true) : ∃ m : Nat, n = m ∧ m < 256 := by
  have h1 : IntKind.u8.min = 0 := rfl
  have h2 : IntKind.u8.max = 255 := rfl
  simp [Lit.wf, h1, h2] at h
  exact ⟨n.toNat, by omega, by omega⟩
theorem wf_i64 {n : Int} (h : (Lit.int .i64 n).wf = true) : In64 n := by
  have h1 : IntKind.i64.min = -9223372036854775808 := rfl
  have h2 : IntKind.i64.max = 9223372036854775807 := rfl
  simp [Lit.wf, h1, h2] at h
  unfold In64
  omega
theorem choose_list {α : Type} {p : Nat → α → Prop} : ∀ n : Nat, (∀ i, i < n → ∃ x, p i x) → ∃ l : List α, l.length = n ∧ ∀ i (h : i < l.length), p i l[i]
  | 0, _ => ⟨[], rfl, fun i h => by simp at h⟩
  | n + 1, h => by
    obtain ⟨l, hl, hp⟩ := choose_list n (fun i hi => h i (by omega))
    obtain ⟨x, hx⟩ := h n (by omega)
    refine ⟨l ++ [x], by simp [hl], fun i hi => ?_⟩
    rcases Nat.lt_or_ge i l.length with h1 | h1
    · rw [List.getElem_append_left h1]; exact hp i h1
    · have : i = n := by simp at hi; omega
      subst this
      rw [List.getElem_append_right h1]
      simpa [hl] using hx
section
variable {H : Type} {enc : TypeId × Value → H} {W : World}
/-- A slice that came in, element by element. -/
theorem open_rows {t e : TypeId} {kk fuel : Nat} {v : Value} {y : DataW H × List MemPlace} {α : Type} (q : α → List Value → Prop) (ht : Tryz.prog.underlying t = some (.slice e)) (hk : Tryz.prog.cellsOf e = kk) (hkp : 0 < kk)
    (hq : ∀ n cs y, DataW.trod enc Tryz.prog W 0 (fun _ => true) true n e cs = some y → ∃ x : α, q x cs)
    (h : DataW.trod enc Tryz.prog W 0 (fun _ => true) true fuel t [v] = some y) :
    ∃ (xs : List α) (css : Nat → List Value), SlC W v xs.length kk (fun i j => ((css i)[j]?).getD undef) ∧ ∀ i (hi : i < xs.length), q xs[i] (css i) := by
  rcases open_slice ht h with ⟨hc, _⟩ | ⟨a, len, cap, m, n, D, Pl, hc, _, hl, hm, hmm, _, hi⟩
  · obtain rfl : v = .slice none 0 0 := by simpa using hc
    exact ⟨[], fun _ => [], SlC.nil W _ _, fun i hi => by simp at hi⟩
  · obtain rfl : v = .slice (some a) len cap := by simpa using hc
    have hlm : len ≤ m := by rw [hmm]; simp [hl]
    obtain ⟨zs, hzl, hzs⟩ := choose_list (α := α × List Value) (p := fun i z => q z.1 z.2 ∧ ∀ j, j < kk → W.cell? (a.add (i * kk + j)) = some ((z.2[j]?).getD undef)) len (fun i hil => by
      obtain ⟨cs', hcs, htr⟩ := hi i (by omega)
      rw [hk] at hcs
      obtain ⟨_, hlen, hat⟩ := World.cells?_some hcs
      obtain ⟨x, hx⟩ := hq _ _ _ htr
      refine ⟨(x, cs'), hx, fun j hj => ?_⟩
      rw [← Go.Deep.add_add, hat j hj, List.getElem?_eq_getElem (by rw [hlen]; exact hj)]
      rfl)
    refine ⟨zs.map (·.1), fun i => (zs[i]?.map (·.2)).getD [], ?_, fun i hi => ?_⟩
    · rw [List.length_map, hzl]
      refine ⟨some a, cap, rfl, hl, by unfold maxLen at hm; exact hm, (fun h => by cases h), fun h0 => ?_⟩
      have hs : a.spot = none := by
        have := (hzs 0 (by omega)).2 0 hkp
        simpa [Addr.add] using World.cell?_spot this
      obtain ⟨b, off, spot⟩ := a
      simp only at hs
      subst hs
      refine ⟨b, off, rfl, ?_, fun i hi j hj => ?_⟩
      · have := (hzs 0 (by omega)).2 0 hkp
        rw [add_off] at this
        exact World.block_lt_of_cell? _ _ this
      · have := (hzs i (by omega)).2 j hj
        rw [add_off] at this
        show _ = some ((((zs[i]?.map (·.2)).getD [])[j]?).getD undef)
        rw [Nat.add_assoc, this, List.getElem?_eq_getElem (l := zs) (show i < zs.length by omega)]
        rfl
    · have hi' : i < zs.length := by simpa using hi
      have := (hzs i hi').1
      show q _ ((zs[i]?.map (·.2)).getD [])
      rw [List.getElem_map, List.getElem?_eq_getElem hi']
      exact this
theorem SlC.congr {w : World} {v : Value} {n k : Nat} {f g : Nat → Nat → Value} (h : SlC w v n k f) (hfg : ∀ i, i < n → ∀ j, j < k → f i j = g i j) : SlC w v n k g := by
  obtain ⟨a, cap, h1, h2, h3, h4, h5⟩ := h
  refine ⟨a, cap, h1, h2, h3, h4, fun hn => ?_⟩
  obtain ⟨b, off, e, hlt, hc⟩ := h5 hn
  exact ⟨b, off, e, hlt, fun i hi j hj => by rw [hc i hi j hj, hfg i hi j hj]⟩
theorem cells_int : Tryz.prog.cellsOf 3 = 1 := by kernel_rfl
theorem cells_ints : Tryz.prog.cellsOf 54 = 1 := by kernel_rfl
theorem cells_step : Tryz.prog.cellsOf 53 = 4 := by kernel_rfl
theorem cells_kind : Tryz.prog.cellsOf 51 = 1 := by kernel_rfl
theorem cells_plan : Tryz.prog.cellsOf 27 = 2 := by kernel_rfl
theorem cells_steps : Tryz.prog.cellsOf 24 = 1 := by kernel_rfl
theorem cells_lists : Tryz.prog.cellsOf 25 = 1 := by kernel_rfl
theorem cells_rkind : Tryz.prog.cellsOf 22 = 1 := by kernel_rfl
theorem cells_answer : Tryz.prog.cellsOf 23 = 1 := by kernel_rfl
theorem cells_record : Tryz.prog.cellsOf 29 = 7 := by kernel_rfl
theorem get_at {α : Type} (l : List α) (d : α) {i : Nat} (hi : i < l.length) : l.getD i d = l[i] := by rw [List.getD_eq_getElem?_getD, List.getElem?_eq_getElem hi]; rfl
set_option maxRecDepth 100000 in
theorem slI_of_arg {n : Nat} {v : Value} {y : DataW H × List MemPlace} (h : DataW.trod enc Tryz.prog W 0 (fun _ => true) true n 54 [v] = some y) : ∃ l, SlI W v l := by
  obtain ⟨xs, css, h1, h2⟩ := open_rows (α := Int) (fun z cs => In64 z ∧ cs = [.int .i64 z]) Tryz.underlying54 cells_int (by omega) (fun n cs y h => by
    obtain ⟨z, e, _, hw⟩ := DataW.trod_int Tryz.underlying3 h
    exact ⟨z, wf_i64 hw, e⟩) h
  refine ⟨xs, fun z hz => ?_, h1.congr fun i hi j hj => ?_⟩
  · obtain ⟨i, hi, rfl⟩ := List.getElem_of_mem hz
    exact (h2 i hi).1
  · obtain rfl : j = 0 := by omega
    rw [(h2 i hi).2, get_at xs 0 hi]
    rfl
set_option maxRecDepth 100000 in
theorem step_of_cells {n : Nat} {cs : List Value} {y : DataW H × List MemPlace} (h : DataW.trod enc Tryz.prog W 0 (fun _ => true) true n 53 cs = some y) : ∃ s : Stp, StpOk s ∧ cs = [stpC s 0, stpC s 1, stpC s 2, stpC s 3] := by
  obtain ⟨y0, y1, y2, y3, m, _, hl, h0, h1, h2, h3⟩ := Joins.trod_struct4 Tryz.underlying53 h
  match cs, hl.trans cells_step with
  | [c0, c1, c2, c3], _ =>
    simp [cells_kind, cells_int] at h0 h1 h2 h3
    obtain ⟨z0, e0, _, w0⟩ := DataW.trod_int Tryz.underlying51 h0
    obtain ⟨z1, e1, _, w1⟩ := DataW.trod_int Tryz.underlying3 h1
    obtain ⟨z2, e2, _, w2⟩ := DataW.trod_int Tryz.underlying3 h2
    obtain ⟨z3, e3, _, w3⟩ := DataW.trod_int Tryz.underlying3 h3
    obtain ⟨k, rfl, hk⟩ := wf_u8 w0
    obtain rfl : c0 = .int .u8 (k : Int) := by simpa using e0
    obtain rfl : c1 = .int .i64 z1 := by simpa using e1
    obtain rfl : c2 = .int .i64 z2 := by simpa using e2
    obtain rfl : c3 = .int .i64 z3 := by simpa using e3
    exact ⟨⟨k, z1, z2, z3⟩, ⟨hk, wf_i64 w1, wf_i64 w2, wf_i64 w3⟩, rfl⟩
set_option maxRecDepth 100000 in
theorem slS_of_arg {n : Nat} {v : Value} {y : DataW H × List MemPlace} (h : DataW.trod enc Tryz.prog W 0 (fun _ => true) true n 24 [v] = some y) : ∃ l, SlS W v l := by
  obtain ⟨xs, css, h1, h2⟩ := open_rows (α := Stp) (fun s cs => StpOk s ∧ cs = [stpC s 0, stpC s 1, stpC s 2, stpC s 3]) Tryz.underlying24 cells_step (by omega) (fun n cs y h => step_of_cells h) h
  refine ⟨xs, fun z hz => ?_, h1.congr fun i hi j hj => ?_⟩
  · obtain ⟨i, hi, rfl⟩ := List.getElem_of_mem hz
    exact (h2 i hi).1
  · rw [(h2 i hi).2, get_at xs stp0 hi]
    obtain rfl | rfl | rfl | rfl : j = 0 ∨ j = 1 ∨ j = 2 ∨ j = 3 := by omega
    all_goals rfl
set_option maxRecDepth 100000 in
theorem slL_of_arg {n : Nat} {v : Value} {y : DataW H × List MemPlace} (h : DataW.trod enc Tryz.prog W 0 (fun _ => true) true n 25 [v] = some y) : ∃ l, SlL W v l := by
  obtain ⟨xs, css, h1, h2⟩ := open_rows (α := List Int) (fun l cs => ∃ u, SlI W u l ∧ cs = [u]) Tryz.underlying25 cells_ints (by omega) (fun n cs y h => by
    obtain ⟨a, len, cap, e⟩ : ∃ a len cap, cs = [.slice a len cap] := by
      rcases open_slice Tryz.underlying54 h with ⟨hc, _⟩ | ⟨a, len, cap, m, n, D, Pl, hc, _⟩
      · exact ⟨_, _, _, hc⟩
      · exact ⟨_, _, _, hc⟩
    rw [e] at h ⊢
    obtain ⟨l, hl⟩ := slI_of_arg h
    exact ⟨l, _, hl, rfl⟩) h
  refine ⟨xs, fun i => ((css i)[0]?).getD undef, h1.congr fun i hi j hj => ?_, fun i hi => ?_⟩
  · obtain rfl : j = 0 := by omega
    rfl
  · obtain ⟨u, hu, e⟩ := h2 i hi
    show SlI W (((css i)[0]?).getD undef) _
    rw [e, get_at xs [] hi]
    exact hu
set_option maxRecDepth 100000 in
theorem rec_of_cells {n : Nat} {cs : List Value} {y : DataW H × List MemPlace} (h : DataW.trod enc Tryz.prog W 0 (fun _ => true) true n 29 cs = some y) : ∃ (r : Rec) (vs va : Value), IsR W (.agg (recV r vs va)) r ∧ cs = (recV r vs va).toList := by
  obtain ⟨xs, m, _, rfl, hl, hlen, hf⟩ := DataW.trod_struct Tryz.underlying29 h
  match xs, hlen with
  | [y0, y1, y2, y3, y4, y5], _ =>
    have h0 := hf 0 _ rfl
    have h1 := hf 1 _ rfl
    have h2 := hf 2 _ rfl
    have h3 := hf 3 _ rfl
    have h4 := hf 4 _ rfl
    have h5 := hf 5 _ rfl
    match cs, hl.trans cells_record with
    | [c0, c1, c2, c3, c4, c5, c6], _ =>
      simp [cells_rkind, cells_int, cells_answer, cells_plan] at h0 h1 h2 h3 h4 h5
      obtain ⟨z0, e0, _, w0⟩ := DataW.trod_int Tryz.underlying22 h0
      obtain ⟨z1, e1, _, w1⟩ := DataW.trod_int Tryz.underlying3 h1
      obtain ⟨z2, e2, _, w2⟩ := DataW.trod_int Tryz.underlying3 h2
      obtain ⟨z3, e3, _, w3⟩ := DataW.trod_int Tryz.underlying3 h3
      obtain ⟨z4, e4, _, w4⟩ := DataW.trod_int Tryz.underlying23 h4
      obtain ⟨p0, p1, m2, _, _, g0, g1⟩ := trod_struct2 Tryz.underlying27 h5
      simp [cells_steps, cells_lists] at g0 g1
      obtain ⟨ss, hss⟩ := slS_of_arg g0
      obtain ⟨ls, hls⟩ := slL_of_arg g1
      obtain ⟨k, rfl, hk⟩ := wf_u8 w0
      obtain ⟨a, rfl, ha⟩ := wf_u8 w4
      obtain rfl : c0 = .int .u8 (k : Int) := by simpa using e0
      obtain rfl : c1 = .int .i64 z1 := by simpa using e1
      obtain rfl : c2 = .int .i64 z2 := by simpa using e2
      obtain rfl : c3 = .int .i64 z3 := by simpa using e3
      obtain rfl : c4 = .int .u8 (a : Int) := by simpa using e4
      exact ⟨⟨k, z1, z2, z3, a, ss, ls⟩, c5, c6, ⟨⟨hk, wf_i64 w1, wf_i64 w2, wf_i64 w3, ha⟩, c5, c6, rfl, hss, hls⟩, rfl⟩
set_option maxRecDepth 100000 in
/-- An argument that is a record. -/
theorem open_record {base : Nat} {v : Value} {d : DataW H} {p : List MemPlace} (hv : Value.okWide Tryz.prog W .any base 29 v) (h : DataW.Trod enc Tryz.prog W 0 (fun _ => true) true 29 v d p) : ∃ r, IsR W v r := by
  obtain ⟨cs, rfl, hsz⟩ := okWide_struct Tryz.underlying29 hv
  obtain ⟨fuel, hf⟩ := h
  have hf : DataW.trod enc Tryz.prog W 0 (fun _ => true) true fuel 29 cs.toList = some (d, p) := hf
  obtain ⟨r, vs, va, h1, h2⟩ := rec_of_cells hf
  refine ⟨r, ?_⟩
  rw [show cs = recV r vs va from Array.toList_inj.1 h2]
  exact h1
set_option maxRecDepth 100000 in
/-- An argument that is a slice of records. -/
theorem open_records {base : Nat} {v : Value} {d : DataW H} {p : List MemPlace} (hv : Value.okWide Tryz.prog W .any base 38 v) (h : DataW.Trod enc Tryz.prog W 0 (fun _ => true) true 38 v d p) : ∃ rs, SlR W v rs := by
  obtain ⟨a0, len0, cap0, rfl⟩ := okWide_slice Tryz.underlying38 hv
  obtain ⟨fuel, hf⟩ := h
  have hf : DataW.trod enc Tryz.prog W 0 (fun _ => true) true fuel 38 [.slice a0 len0 cap0] = some (d, p) := by simpa [Value.cells] using hf
  obtain ⟨xs, css, h1, h2⟩ := open_rows (α := Rec × Value × Value) (fun x cs => IsR W (.agg (recV x.1 x.2.1 x.2.2)) x.1 ∧ cs = (recV x.1 x.2.1 x.2.2).toList) Tryz.underlying38 cells_record (by omega) (fun n cs y h => by
    obtain ⟨r, vs, va, k1, k2⟩ := rec_of_cells h
    exact ⟨(r, vs, va), k1, k2⟩) hf
  have hg : ∀ i (hi : i < xs.length), (xs.map (·.1)).getD i Rec.none = xs[i].1 ∧ (xs[i]?.map (·.2)).getD (undef, undef) = xs[i].2 := fun i hi => by
    rw [List.getD_eq_getElem?_getD, List.getElem?_map, List.getElem?_eq_getElem hi]
    exact ⟨rfl, rfl⟩
  refine ⟨xs.map (·.1), fun i => (xs[i]?.map (·.2)).getD (undef, undef), ?_, fun i hi => ?_⟩
  · rw [List.length_map]
    refine h1.congr fun i hi j hj => ?_
    obtain ⟨g1, g2⟩ := hg i hi
    dsimp only
    rw [(h2 i hi).2, g1, g2]
    simp
  · have hi' : i < xs.length := by simpa using hi
    obtain ⟨g1, g2⟩ := hg i hi'
    dsimp only
    rw [g1, g2]
    exact (h2 i hi').1
end
end Go.Proofs.YtpaoeeamlinaaaaGreatDoor

/- Syntax: arguments that are clauses; their names are not too many. -/
import Derived.Test.YtganlldidjbpiaaGreatDoorK25
import Derived.Deep.Slices
import Derived.Lib.SmallJoins
import Derived.OpenShut
set_option linter.unusedVariables false
namespace Go.Proofs.YtganlldidjbpiaaGreatDoor
open Go.RowKit Go.ChangeShapes Go.WideShapes Go.Deep

theorem wf_u8 {n : Int} (h : (Lit.int .u8 n).wf = true) : ∃ m : Nat, n = m ∧ m < 256 := by
  have h1 : IntKind.u8.min = 0 := rfl
  have h2 : IntKind.u8.max = 255 := rfl
  simp [Lit.wf, h1, h2] at h
  exact ⟨n.toNat, by omega, by omega⟩
theorem wf_i64 {n : Int} (h : (Lit.int .i64 n).wf = true) : In64 n := by
  have h1 : IntKind.i64.min = -9223372036854775808 := rfl
  have h2 : IntKind.i64.max = 9223372036854775807 := rfl
  simp [Lit.wf, h1, h2] at h
  unfold In64
  omega
theorem choose_list {α : Type} {p : Nat → α → Prop} : ∀ n : Nat, (∀ i, i < n → ∃ x, p i x) → ∃ l : List α, l.length = n ∧ ∀ i (h : i < l.length), p i l[i]
  | 0, _ => ⟨[], rfl, fun i h => by simp at h⟩
  | n + 1, h => by
    obtain ⟨l, hl, hp⟩ := choose_list n (fun i hi => h i (by omega))
    obtain ⟨x, hx⟩ := h n (by omega)
    refine ⟨l ++ [x], by simp [hl], fun i hi => ?_⟩
    rcases Nat.lt_or_ge i l.length with h1 | h1
    · rw [List.getElem_append_left h1]; exact hp i h1
    · have : i = n := by simp at hi; omega
      subst this
      rw [List.getElem_append_right h1]
      simpa [hl] using hx
section
variable {H : Type} {enc : TypeId × Value → H} {W : World}
/-- No slice of it is too great. -/
def WB (t : TypeId) (d : DataW H) : Prop := ∀ x ∈ d.weights Tryz.prog t, x ≤ reachBytes
theorem weightsAll_mem {e : TypeId} {d : DataW H} {x : Nat} : ∀ {r : List (DataW H)}, d ∈ r → x ∈ d.weights Tryz.prog e → x ∈ DataW.weightsAll Tryz.prog e r
  | [], h, _ => by cases h
  | d' :: r, h, hx => by
    rw [DataW.weightsAll]
    rcases List.mem_cons.1 h with rfl | h
    · exact List.mem_append_left _ hx
    · exact List.mem_append_right _ (weightsAll_mem h hx)
set_option maxRecDepth 100000 in
/-- A slice that came in, element by element. -/
theorem open_rowsF {t e : TypeId} {kk by_ fuel : Nat} {v : Value} {y : DataW H × List MemPlace} {α : Type} (q : α → List Value → Prop) (ht : Tryz.prog.underlying t = some (.slice e)) (hk : Tryz.prog.cellsOf e = kk) (hkp : 0 < kk) (hby : Tryz.prog.bytesOf e = by_)
    (hq : ∀ n, n < fuel → ∀ cs y, DataW.trod enc Tryz.prog W 0 (fun _ => true) true n e cs = some y → WB e y.1 → ∃ x : α, q x cs)
    (h : DataW.trod enc Tryz.prog W 0 (fun _ => true) true fuel t [v] = some y) (hw : WB t y.1) :
    ∃ (xs : List α) (css : Nat → List Value), SlH (fun b => b < W.heap.size) W v xs.length kk (fun i j => ((css i)[j]?).getD undef) ∧ (∀ i (hi : i < xs.length), q xs[i] (css i)) ∧ xs.length * by_ ≤ reachBytes := by
  rcases DataW.trod_slice ht h with ⟨hc, _⟩ | ⟨a, len, cap, elems, rest, n, hn, hc, hx, _, hl, hm, hel, hi, _, _⟩
  · obtain rfl : v = .slice none 0 0 := by simpa using hc
    exact ⟨[], fun _ => [], SlH.nil _ W _ _, (fun i hi => by simp at hi), by simp⟩
  · obtain rfl : v = .slice (some a) len cap := by simpa using hc
    subst hx
    have hwe : ∀ (i : Nat) (z : DataW H × List MemPlace), elems[i]? = some z → WB e z.1 := fun i z hz x hx => by
      refine hw x ?_
      show x ∈ DataW.weights Tryz.prog t (.slice (elems.map (·.1)) (rest.map (·.1)))
      rw [DataW.weights, ht]
      exact List.mem_cons_of_mem _ (List.mem_append_left _ (weightsAll_mem (List.mem_map.2 ⟨z, List.mem_of_getElem? hz, rfl⟩) hx))
    have hlen : len * by_ ≤ reachBytes := by
      have := hw ((elems.map (·.1)).length * by_ + (rest.map (·.1)).length * by_) (by
        show _ ∈ DataW.weights Tryz.prog t (.slice (elems.map (·.1)) (rest.map (·.1)))
        rw [DataW.weights, ht]
        show _ ∈ (((elems.map (·.1)).length + (rest.map (·.1)).length) * Tryz.prog.bytesOf e) :: _
        rw [hby, Nat.add_mul]
        exact List.mem_cons_self ..)
      rw [List.length_map, hel] at this
      omega
    obtain ⟨zs, hzl, hzs⟩ := choose_list (α := α × List Value) (p := fun i z => q z.1 z.2 ∧ ∀ j, j < kk → W.cell? (a.add (i * kk + j)) = some ((z.2[j]?).getD undef)) len (fun i hil => by
      have h1 := hi i hil
      rw [List.getElem?_eq_getElem (by omega)] at h1
      obtain ⟨cs', hcs, htr⟩ := Option.bind_eq_some_iff.1 h1
      rw [hk] at hcs
      obtain ⟨_, hlen, hat⟩ := World.cells?_some hcs
      obtain ⟨x, hx⟩ := hq n (by omega) _ _ htr (hwe i _ (List.getElem?_eq_getElem (by omega)))
      refine ⟨(x, cs'), hx, fun j hj => ?_⟩
      rw [← Go.Deep.add_add, hat j hj, List.getElem?_eq_getElem (by rw [hlen]; exact hj)]
      rfl)
    refine ⟨zs.map (·.1), fun i => (zs[i]?.map (·.2)).getD [], ?_, fun i hi => ?_, by rw [List.length_map, hzl]; exact hlen⟩
    · rw [List.length_map, hzl]
      refine ⟨some a, cap, rfl, hl, by unfold maxLen at hm; exact hm, (fun h => by cases h), fun h0 => ?_⟩
      have hs : a.spot = none := by
        have := (hzs 0 (by omega)).2 0 hkp
        simpa [Addr.add] using World.cell?_spot this
      have hblk : a.block < W.heap.size := World.block_lt_of_cell? W ⟨a.block, a.off + (0 * kk + 0), none⟩ (by
        have := (hzs 0 (by omega)).2 0 hkp
        rw [spot_off hs] at this
        exact this)
      refine ⟨a.block, a.off, by rw [← hs], hblk, hblk, fun i hi j hj => ?_⟩
      have := (hzs i (by omega)).2 j hj
      rw [spot_off hs] at this
      show _ = some ((((zs[i]?.map (·.2)).getD [])[j]?).getD undef)
      rw [Nat.add_assoc, this, List.getElem?_eq_getElem (l := zs) (show i < zs.length by omega)]
      rfl
    · have hi' : i < zs.length := by simpa using hi
      have := (hzs i hi').1
      show q _ ((zs[i]?.map (·.2)).getD [])
      rw [List.getElem_map, List.getElem?_eq_getElem hi']
      exact this
theorem SlH.congr {D : Nat → Prop} {w : World} {v : Value} {n k : Nat} {f g : Nat → Nat → Value} (h : SlH D w v n k f) (hfg : ∀ i, i < n → ∀ j, j < k → f i j = g i j) : SlH D w v n k g := by
  obtain ⟨a, cap, h1, h2, h3, h4, h5⟩ := h
  refine ⟨a, cap, h1, h2, h3, h4, fun hn => ?_⟩
  obtain ⟨b, off, e, hD, hlt, hc⟩ := h5 hn
  exact ⟨b, off, e, hD, hlt, fun i hi j hj => by rw [hc i hi j hj, hfg i hi j hj]⟩
theorem cells_int : Tryz.prog.cellsOf 3 = 1 := by kernel_rfl
theorem cells_strs : Tryz.prog.cellsOf 40 = 1 := by kernel_rfl
theorem cells_ckind : Tryz.prog.cellsOf 39 = 1 := by kernel_rfl
theorem cells_clause : Tryz.prog.cellsOf 43 = 8 := by kernel_rfl
theorem cells_clauses : Tryz.prog.cellsOf 22 = 1 := by kernel_rfl
theorem get_at {α : Type} (l : List α) (d : α) {i : Nat} (hi : i < l.length) : l.getD i d = l[i] := by rw [List.getD_eq_getElem?_getD, List.getElem?_eq_getElem hi]; rfl
set_option maxRecDepth 100000 in
theorem names_of_arg {n : Nat} {v : Value} {y : DataW H × List MemPlace} (h : DataW.trod enc Tryz.prog W 0 (fun _ => true) true n 40 [v] = some y) (hw : WB 40 y.1) : ∃ l, SlN (fun b => b < W.heap.size) W v l ∧ l.length ≤ 17592186044416 := by
  obtain ⟨xs, css, h1, h2, h3⟩ := open_rowsF (α := List UInt8) (by_ := 16) (fun z cs => z.length ≤ 9223372036854775807 ∧ cs = [.string (bs z)]) Tryz.underlying40 cells_str (by omega) (by kernel_rfl) (fun n _ cs y h _ => by
    obtain ⟨s, e, _, hs⟩ := DataW.trod_string Tryz.underlying9 h
    refine ⟨s.data.toList, ?_, e⟩
    unfold maxLen at hs
    exact hs) h hw
  refine ⟨xs, ⟨fun z hz => ?_, h1.congr fun i hi j hj => ?_⟩, by unfold reachBytes at h3; omega⟩
  · obtain ⟨i, hi, rfl⟩ := List.getElem_of_mem hz
    exact (h2 i hi).1
  · obtain rfl : j = 0 := by omega
    rw [(h2 i hi).2, get_at xs [] hi]
    rfl
/-- The names of a clause, and those of its items, are not too many. -/
def Bd (c : Cl) : Prop := c.names.length ≤ 17592186044416 ∧ ∀ i ∈ c.items, i.names.length ≤ 17592186044416
theorem HasL.of_at {D : Nat → Prop} : ∀ {l : List Cl} {us : List (Value × Value)}, us.length = l.length → (∀ i, i < l.length → HasC D W (us.getD i uu).1 (us.getD i uu).2 (l.getD i cl0)) → HasL D W us l
  | [], [], _, _ => by rw [HasL]; trivial
  | [], _ :: _, h, _ => by simp at h
  | _ :: _, [], h, _ => by simp at h
  | c :: l, u :: us, h, k => by
    rw [HasL]
    exact ⟨k 0 (by simp), HasL.of_at (by simpa using h) (fun i hi => k (i + 1) (by simpa using hi))⟩
set_option maxRecDepth 100000 in
theorem clause_of_cells {n : Nat} (IH : ∀ m, m < n → ∀ v y, DataW.trod enc Tryz.prog W 0 (fun _ => true) true m 22 [v] = some y → WB 22 y.1 → ∃ l, SlC (fun b => b < W.heap.size) W v l ∧ ∀ c ∈ l, Bd c)
    {cs : List Value} {y : DataW H × List MemPlace} (h : DataW.trod enc Tryz.prog W 0 (fun _ => true) true n 43 cs = some y) (hw : WB 43 y.1) : ∃ (c : Cl) (vn vi : Value), HasC (fun b => b < W.heap.size) W vn vi c ∧ cs = clV c vn vi ∧ Bd c := by
  obtain ⟨xs, m, rfl, rfl, hl, hlen, hf⟩ := DataW.trod_struct Tryz.underlying43 h
  match xs, hlen with
  | [y0, y1, y2, y3, y4, y5, y6, y7], _ =>
    have h0 := hf 0 _ rfl
    have h1 := hf 1 _ rfl
    have h2 := hf 2 _ rfl
    have h3 := hf 3 _ rfl
    have h4 := hf 4 _ rfl
    have h5 := hf 5 _ rfl
    have h6 := hf 6 _ rfl
    have h7 := hf 7 _ rfl
    have w1 : WB 40 y1.1 := fun x hx => by
      refine hw x ?_
      show x ∈ DataW.weights Tryz.prog 43 (.agg [y0.1, y1.1, y2.1, y3.1, y4.1, y5.1, y6.1, y7.1])
      rw [DataW.weights, Tryz.underlying43]
      simp only [DataW.weightsEach, List.map_cons, List.mem_append]
      exact .inr (.inl hx)
    have w6 : WB 22 y6.1 := fun x hx => by
      refine hw x ?_
      show x ∈ DataW.weights Tryz.prog 43 (.agg [y0.1, y1.1, y2.1, y3.1, y4.1, y5.1, y6.1, y7.1])
      rw [DataW.weights, Tryz.underlying43]
      simp only [DataW.weightsEach, List.map_cons, List.mem_append]
      exact .inr (.inr (.inr (.inr (.inr (.inr (.inl hx))))))
    match cs, hl.trans cells_clause with
    | [c0, c1, c2, c3, c4, c5, c6, c7], _ =>
      simp [cells_ckind, cells_int, cells_dom, cells_strs, cells_clauses] at h0 h1 h2 h3 h4 h5 h6 h7
      obtain ⟨z0, e0, _, w0⟩ := DataW.trod_int Tryz.underlying39 h0
      obtain ⟨z2, e2, _, w2⟩ := DataW.trod_int Tryz.underlying41 h2
      obtain ⟨z3, e3, _, w3⟩ := DataW.trod_int Tryz.underlying3 h3
      obtain ⟨z4, e4, _, w4⟩ := DataW.trod_int Tryz.underlying3 h4
      obtain ⟨z5, e5, _, w5⟩ := DataW.trod_int Tryz.underlying3 h5
      obtain ⟨z7, e7, _, w7⟩ := DataW.trod_int Tryz.underlying3 h7
      obtain ⟨ns, hns, hnl⟩ := names_of_arg h1 w1
      obtain ⟨is_, his, hil⟩ := IH m (by omega) _ _ h6 w6
      obtain ⟨k, rfl, hk⟩ := wf_u8 w0
      obtain ⟨d, rfl, hd⟩ := wf_u8 w2
      obtain rfl : c0 = .int .u8 (k : Int) := by simpa using e0
      obtain rfl : c2 = .int .u8 (d : Int) := by simpa using e2
      obtain rfl : c3 = .int .i64 z3 := by simpa using e3
      obtain rfl : c4 = .int .i64 z4 := by simpa using e4
      obtain rfl : c5 = .int .i64 z5 := by simpa using e5
      obtain rfl : c7 = .int .i64 z7 := by simpa using e7
      refine ⟨.mk k ns d z3 z4 z5 is_ z7, c1, c6, hasC_iff.2 ⟨⟨hk, hd, wf_i64 w3, wf_i64 w4, wf_i64 w5, wf_i64 w7⟩, hns, his⟩, rfl, hnl, fun i hi => (hil i hi).1⟩
set_option maxRecDepth 100000 in
theorem clauses_of_arg : ∀ (n m : Nat), m < n → ∀ v y, DataW.trod enc Tryz.prog W 0 (fun _ => true) true m 22 [v] = some y → WB 22 y.1 → ∃ l, SlC (fun b => b < W.heap.size) W v l ∧ ∀ c ∈ l, Bd c
  | 0, _, h => absurd h (Nat.not_lt_zero _)
  | n + 1, m, hm => by
    intro v y h hw
    obtain ⟨xs, css, h1, h2, _⟩ := open_rowsF (α := Cl × Value × Value) (by_ := 96) (fun x cs => HasC (fun b => b < W.heap.size) W x.2.1 x.2.2 x.1 ∧ cs = clV x.1 x.2.1 x.2.2 ∧ Bd x.1) Tryz.underlying22 cells_clause (by omega) (by kernel_rfl) (fun k hk cs y h hw => by
      obtain ⟨c, vn, vi, q1, q2, q3⟩ := clause_of_cells (fun m' hm' v y h hw => clauses_of_arg n m' (by omega) v y h hw) h hw
      exact ⟨(c, vn, vi), q1, q2, q3⟩) h hw
    have hg : ∀ i (hi : i < xs.length), (xs.map (·.1)).getD i cl0 = xs[i].1 ∧ (xs.map (·.2)).getD i uu = xs[i].2 := fun i hi => by
      rw [List.getD_eq_getElem?_getD, List.getElem?_map, List.getElem?_eq_getElem hi, List.getD_eq_getElem?_getD, List.getElem?_map, List.getElem?_eq_getElem hi]
      exact ⟨rfl, rfl⟩
    refine ⟨xs.map (·.1), ⟨xs.map (·.2), ?_, HasL.of_at (by simp) (fun i hi => ?_)⟩, fun c hc => ?_⟩
    · rw [List.length_map]
      refine h1.congr fun i hi j hj => ?_
      obtain ⟨g1, g2⟩ := hg i hi
      unfold clF
      rw [(h2 i hi).2.1, g1, g2, List.getD_eq_getElem?_getD]
    · have hi' : i < xs.length := by simpa using hi
      obtain ⟨g1, g2⟩ := hg i hi'
      rw [g1, g2]
      exact (h2 i hi').1
    · obtain ⟨x, hx, rfl⟩ := List.mem_map.1 hc
      obtain ⟨i, hi, rfl⟩ := List.getElem_of_mem hx
      exact (h2 i hi).2.2
set_option maxRecDepth 100000 in
/-- An argument that is a slice of clauses. -/
theorem open_clauses {base : Nat} {v : Value} {d : DataW H} {p : List MemPlace} (hv : Value.okWide Tryz.prog W .any base 22 v) (h : DataW.Trod enc Tryz.prog W 0 (fun _ => true) true 22 v d p) (hw : WB 22 d) : ∃ l, SlC (fun b => b < W.heap.size) W v l ∧ ∀ c ∈ l, Bd c := by
  obtain ⟨a0, len0, cap0, rfl⟩ := okWide_slice Tryz.underlying22 hv
  obtain ⟨fuel, hf⟩ := h
  have hf : DataW.trod enc Tryz.prog W 0 (fun _ => true) true fuel 22 [.slice a0 len0 cap0] = some (d, p) := by simpa [Value.cells] using hf
  exact clauses_of_arg (fuel + 1) fuel (by omega) _ _ hf hw
end
/-- As handed_laid_shaped; the contract is told that no slice of an argument is too great. -/
theorem handed_laid_sized {H : Type} {enc : TypeId × Value → H} {a : Assume} {C : Checked} {os : Os} {f : FuncId} {fn : Func} {s : ChangeSpec} {conds : List PathCond} {apart fresh handsOn again : Bool} {X : World → Array Value → Prop}
    (hX : ∀ (w w' : World) (args : Array Value), w.heap = w'.heap → X w args → X w' args)
    (own : ownKnob C.prog.godebug = none) (started : os.Started) (noInit : C.prog.inits.idxOf? f = none) (hfn : C.prog.funcs[f]? = some fn)
    (witness : ∃ (w : World) (tape : Tape) (i : Input), w.os = os ∧ (w.forCall tape i).Shaped C.prog ∧ i.vars = [] ∧ Input.okWide C.prog (w.forCall tape i) .any w.heap.size f i ∧
      ((s.pre enc C.prog fn conds apart (w.forCall tape i).memory i.args ∧ X (w.forCall tape i).memory i.args) ∧ sizedMet enc C.prog fn (OpenSpec.ofChange s) apart (w.forCall tape i).memory i.args) ∧ a.holds C.prog (lone (Frame.enter C.prog f i.args .normal) [] (w.forCall tape i)))
    (contract : ∀ (W : World) (base : Nat) (args : Array Value) (ds gs : List (DataW H)) (before : List MemPlace),
      (∀ (j : Nat) t v, fn.params[j]? = some t → args[j]? = some v → Value.okWide C.prog W .any base t v) →
      DataW.Whole enc C.prog fn.params.toList s.vars apart W args.toList ds gs before → X W args → W.ShapedOpen C.prog → (∀ x ∈ DataW.weightsEach C.prog (fn.params.toList ++ (OpenSpec.ofChange s).bare.plain.varTypes C.prog) (ds ++ gs), x ≤ reachBytes) →
      Calls C.prog f args W fun e W' => ∃ v, e = .returned v ∧ s.post enc C.prog fn apart fresh handsOn again W args v W') :
    ReturnsInHanded a C os f .any (fun w args => (s.pre enc C.prog fn conds apart w args ∧ X w args) ∧ sizedMet enc C.prog fn (OpenSpec.ofChange s) apart w args) (s.post enc C.prog fn apart fresh handsOn again) := by
  refine returnsInHanded_of_calls own started noInit witness ?_
  intro w tape i _ hsh _ hok hpre _
  obtain ⟨_, _, _, fn', hfn', _, _, _, _, hval⟩ := hok
  have e : fn' = fn := Option.some.inj (hfn'.symm.trans hfn)
  subst e
  obtain ⟨⟨_, hx⟩, _, ds, gs, before, hw, hwt⟩ := hpre
  have hw' := DataW.Whole.of_heap (w' := w.forCall tape i) (by rfl) hw
  refine (contract (w.forCall tape i) w.heap.size i.args ds gs before hval hw' (hX _ _ _ (by rfl) hx) hsh (fun x hx => of_decide_eq_true (List.all_eq_true.1 hwt x hx))).mono fun e W' ⟨v, he, hp⟩ => ?_
  subst he
  exact ChangeSpec.post_blind hp
end Go.Proofs.YtganlldidjbpiaaGreatDoor

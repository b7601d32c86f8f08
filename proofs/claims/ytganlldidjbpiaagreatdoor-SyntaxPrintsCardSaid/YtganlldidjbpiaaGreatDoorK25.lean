/- Syntax: how a law's statement follows from its walk: what the listed variables hold when the call begins; the arguments read as they did. -/
import Derived.MakeChecks
import Derived.HandedShaped
import Derived.Shelf.Vars
import Derived.ChangeArms
import Derived.Lib.LaidTab
import Derived.Deep.Slices
import Derived.ProofKit
import Derived.OpenShut
import Derived.WideKeyArgs
import Derived.Test.YtganlldidjbpiaaGreatDoorRows
import Derived.Test.YtganlldidjbpiaaGreatDoorK17
set_option linter.unusedVariables false
namespace Go.Proofs.YtganlldidjbpiaaGreatDoor
open Go.ChangeShapes Go.WideShapes Go.ChangeAt Go.RowKit Go.Deep

/-- The variables that the rows list. -/
def laidSy : List (String × DataW Unit) := [("math/bits.deBruijn32tab", Rows.laid_math_bits_deBruijn32tab), ("math/bits.deBruijn64tab", Rows.laid_math_bits_deBruijn64tab), ("internal/strconv.uint64pow10", Rows.laid_internal_strconv_uint64pow10), ("strconv.ErrRange", Rows.laid_strconv_ErrRange), ("strconv.ErrSyntax", Rows.laid_strconv_ErrSyntax), ("majordomo/syntax.words", Rows.laid_majordomo_syntax_words), ("majordomo/syntax.scopes", Rows.laid_majordomo_syntax_scopes), ("majordomo/syntax.domains", Rows.laid_majordomo_syntax_domains)]
theorem tab_data : (Rows.laid_internal_strconv_uint64pow10 : DataW Unit) = Lib.tabData .u64 Lib.pow10Tab := by rfl
theorem words_data : (Rows.laid_majordomo_syntax_words : DataW Unit) = .slice (wordsL.map fun x => .lit (.string x)) [] := by rfl
theorem scopes_data : (Rows.laid_majordomo_syntax_scopes : DataW Unit) = .slice (scopesL.map fun x => .lit (.string x)) [] := by rfl
theorem doms_data : (Rows.laid_majordomo_syntax_domains : DataW Unit) = .slice ([1, 2, 3, 4, 5].map fun x => .lit (.int .u8 x)) [] := by rfl
theorem cells_str : Tryz.prog.cellsOf 9 = 1 := by kernel_rfl
theorem cells_dom : Tryz.prog.cellsOf 41 = 1 := by kernel_rfl
theorem spot_off {a : Addr} (h : a.spot = none) (i : Nat) : a.add i = ⟨a.block, a.off + i, none⟩ := by
  obtain ⟨b, off, spot⟩ := a
  simp only at h
  subst h
  unfold Addr.add
  split <;> simp_all
/-- A listed slice of one-cell elements. -/
theorem slice_of {W : World} {fuel : Nat} {cs : Array Value} {p : List MemPlace} {t e : TypeId} {ds r : List (DataW Unit)} {V : Nat → Value} (ht : Tryz.prog.underlying t = some (.slice e)) (hc1 : Tryz.prog.cellsOf e = 1)
    (h : DataW.trod (fun _ => ()) Tryz.prog W 0 (fun _ => true) false fuel t cs.toList = some (.slice ds r, p)) (hd0 : 0 < ds.length)
    (hV : ∀ i n x q, ds[i]? = some x → DataW.trod (fun _ => ()) Tryz.prog W 0 (fun _ => true) false n e q = some (x, []) ∨ (∃ z, DataW.trod (fun _ => ()) Tryz.prog W 0 (fun _ => true) false n e q = some (x, z)) → q = [V i]) :
    ∃ v, cs = #[v] ∧ SlH (fun b => b < W.heap.size) W v ds.length 1 (fun i _ => V i) := by
  rcases DataW.trod_slice ht h with ⟨_, hx⟩ | ⟨a, len, cap, elems, rest, n, _, hcs, hx, _, hl, hm, hel, hi, _, _⟩
  · cases hx
  · have hd : (DataW.slice (elems.map (·.1)) (rest.map (·.1)) : DataW Unit) = .slice ds r := (Prod.mk.inj hx).1.symm
    injection hd with hd1 _
    have hlen : len = ds.length := by rw [← hd1, List.length_map, hel]
    subst hlen
    have hcell : ∀ i, i < ds.length → W.cell? (a.add i) = some (V i) := fun i hid => by
      have h1 := hi i hid
      have h2 : (elems.map (·.1))[i]? = some (ds[i]) := by rw [hd1]; exact List.getElem?_eq_getElem hid
      rw [List.getElem?_map] at h2
      obtain ⟨x, hx1, hx2⟩ := Option.map_eq_some_iff.1 h2
      rw [hx1, hc1, Nat.mul_one] at h1
      obtain ⟨cs', hc', ht'⟩ := Option.bind_eq_some_iff.1 h1
      obtain ⟨_, hln, hat⟩ := World.cells?_some hc'
      have h3 := hV i n _ cs' (List.getElem?_eq_getElem hid) (.inr ⟨x.2, by rw [ht', ← hx2]⟩)
      subst h3
      have h4 := hat 0 (by omega)
      rw [show (a.add i).add 0 = a.add i from by rw [Go.Deep.add_add]; rfl] at h4
      rw [h4]; rfl
    have hs : a.spot = none := by
      have := hcell 0 hd0
      simpa [Addr.add] using World.cell?_spot this
    have hblk : a.block < W.heap.size := World.block_lt_of_cell? W ⟨a.block, a.off + 0, none⟩ (by have := hcell 0 hd0; rw [spot_off hs] at this; exact this)
    obtain ⟨l⟩ := cs
    simp only at hcs
    refine ⟨_, by rw [hcs], some a, cap, rfl, hl, by unfold maxLen at hm; exact hm, (fun h => by cases h), fun _ => ⟨a.block, a.off, by rw [← hs], hblk, hblk, fun i hid j hj => ?_⟩⟩
    obtain rfl : j = 0 := by omega
    have := hcell i hid
    rw [spot_off hs] at this
    rw [show a.off + i * 1 + 0 = a.off + i by omega]
    exact this
theorem strs_of {W : World} {fuel : Nat} {cs : Array Value} {p : List MemPlace} {l : List (List UInt8)} {r : List (DataW Unit)} (h : DataW.trod (fun _ => ()) Tryz.prog W 0 (fun _ => true) false fuel 40 cs.toList = some (.slice (l.map fun x => .lit (.string x)) r, p)) (h0 : 0 < l.length) (hn : ∀ n ∈ l, n.length ≤ 9223372036854775807) :
    ∃ v, cs = #[v] ∧ SlN (fun b => b < W.heap.size) W v l := by
  obtain ⟨v, e, hs⟩ := slice_of (V := fun i => .string (bs (l.getD i []))) Tryz.underlying40 cells_str h (by simpa using h0) (fun i n x q hx hq => by
    rw [List.getElem?_map] at hx
    obtain ⟨y, hy, rfl⟩ := Option.map_eq_some_iff.1 hx
    have hq : ∃ z, DataW.trod (fun _ => ()) Tryz.prog W 0 (fun _ => true) false n 9 q = some (.lit (.string y), z) := by
      rcases hq with hq | hq
      · exact ⟨_, hq⟩
      · exact hq
    obtain ⟨z, hq⟩ := hq
    obtain ⟨s, rfl, hs, _⟩ := DataW.trod_string Tryz.underlying9 hq
    injection hs with hs _
    injection hs with hs
    injection hs with hs
    rw [List.getD_eq_getElem?_getD, hy, Option.getD_some, hs]
    rfl)
  rw [List.length_map] at hs
  exact ⟨v, e, hn, hs⟩
theorem doms_of {W : World} {fuel : Nat} {cs : Array Value} {p : List MemPlace} {r : List (DataW Unit)} (h : DataW.trod (fun _ => ()) Tryz.prog W 0 (fun _ => true) false fuel 86 cs.toList = some (.slice ([1, 2, 3, 4, 5].map fun x => .lit (.int .u8 x)) r, p)) :
    ∃ v, cs = #[v] ∧ SlH (fun b => b < W.heap.size) W v 5 1 (fun i _ => .int .u8 ((i + 1 : Nat) : Int)) :=
  slice_of (V := fun i => .int .u8 ((i + 1 : Nat) : Int)) Tryz.underlying86 cells_dom h (by decide) (fun i n x q hx hq => by
    have hq : ∃ z, DataW.trod (fun _ => ()) Tryz.prog W 0 (fun _ => true) false n 41 q = some (x, z) := by
      rcases hq with hq | hq
      · exact ⟨_, hq⟩
      · exact hq
    obtain ⟨z, hq⟩ := hq
    obtain ⟨m, rfl, hs, _⟩ := DataW.trod_int Tryz.underlying41 hq
    injection hs with hs _
    subst hs
    have hi : i < 5 := (List.getElem?_eq_some_iff.1 hx).1
    have hx2 : (([1, 2, 3, 4, 5] : List Int)[i]?).map (fun x => (DataW.lit (.int .u8 x) : DataW Unit)) = some (.lit (.int .u8 m)) := by rw [← List.getElem?_map]; exact hx
    obtain ⟨y, hy, hz⟩ := Option.map_eq_some_iff.1 hx2
    injection hz with hz
    injection hz with _ hz
    subst hz
    match i, hi with
    | 0, _ => injection hy with hy; rw [← hy]; rfl
    | 1, _ => injection hy with hy; rw [← hy]; rfl
    | 2, _ => injection hy with hy; rw [← hy]; rfl
    | 3, _ => injection hy with hy; rw [← hy]; rfl
    | 4, _ => injection hy with hy; rw [← hy]; rfl)
theorem var_cell {W : World} {n : String} {g : Nat} {c : Value} (hg : Tryz.prog.globalNamed n = some g) (hv : W.var? Tryz.prog n = some #[c]) : W.cell? ⟨g, 0, none⟩ = some c := by
  unfold World.var? at hv
  rw [hg] at hv
  simp only [Option.bind_some] at hv
  rcases hh : W.heap[g]? with _ | o
  · rw [hh] at hv; cases hv
  · rw [hh] at hv
    cases o with
    | cells cs t fz =>
      simp only [Option.some.injEq] at hv
      subst hv
      simp [World.cell?, hh]
    | _ => cases hv
/-- What the law's walk needs of memory. -/
def Env (w : World) : Prop := Wds w.heap.size w ∧ Tab10 w
theorem env_of {W : World} (h : laidMetH Tryz.prog laidSy W) (hsh : W.ShapedOpen Tryz.prog) : Env W := by
  rw [MakeChecks.laidMetH_plain _ _ _ (by kernel_rfl)] at h
  obtain ⟨ps, h1, _, _⟩ := h
  obtain ⟨_, _, _, _, _, _, _, _, _, _, h2, _⟩ := h1
  obtain ⟨_, _, _, _, _, _, _, _, _, _, h3, _⟩ := h2
  obtain ⟨g3, t3, cs3, f3, p3, q3, hg3, ht3, hv3, hd3, h4, _⟩ := h3
  obtain ⟨_, _, _, _, _, _, _, _, _, _, h5, _⟩ := h4
  obtain ⟨_, _, _, _, _, _, _, _, _, _, h6, _⟩ := h5
  obtain ⟨g6, t6, cs6, f6, p6, q6, hg6, ht6, hv6, hd6, h7, _⟩ := h6
  obtain ⟨g7, t7, cs7, f7, p7, q7, hg7, ht7, hv7, hd7, h8, _⟩ := h7
  obtain ⟨g8, t8, cs8, f8, p8, q8, hg8, ht8, hv8, hd8, _, _⟩ := h8
  obtain rfl := Option.some.inj ((show Tryz.prog.globalNamed "internal/strconv.uint64pow10" = some 3 by kernel_rfl).symm.trans hg3)
  obtain rfl := Option.some.inj ((show Tryz.prog.globalNamed "majordomo/syntax.words" = some 2 by kernel_rfl).symm.trans hg6)
  obtain rfl := Option.some.inj ((show Tryz.prog.globalNamed "majordomo/syntax.scopes" = some 0 by kernel_rfl).symm.trans hg7)
  obtain rfl := Option.some.inj ((show Tryz.prog.globalNamed "majordomo/syntax.domains" = some 1 by kernel_rfl).symm.trans hg8)
  obtain rfl := Option.some.inj ((show (Tryz.prog.globals[2]?).map (·.type) = some 40 by kernel_rfl).symm.trans ht6)
  obtain rfl := Option.some.inj ((show (Tryz.prog.globals[0]?).map (·.type) = some 40 by kernel_rfl).symm.trans ht7)
  obtain rfl := Option.some.inj ((show (Tryz.prog.globals[1]?).map (·.type) = some 86 by kernel_rfl).symm.trans ht8)
  obtain rfl := Option.some.inj ((show (Tryz.prog.globals[3]?).map (·.type) = some 148 by kernel_rfl).symm.trans ht3)
  rw [words_data] at hd6
  rw [scopes_data] at hd7
  rw [doms_data] at hd8
  obtain ⟨v6, rfl, k6⟩ := strs_of hd6 (by decide) (by decide)
  obtain ⟨v7, rfl, k7⟩ := strs_of hd7 (by decide) (by decide)
  obtain ⟨v8, rfl, k8⟩ := doms_of hd8
  have c6 := var_cell hg6 hv6
  have c7 := var_cell hg7 hv7
  have c8 := var_cell hg8 hv8
  refine ⟨⟨⟨v6, c6, World.block_lt_of_cell? _ _ c6, k6⟩, ⟨v7, c7, World.block_lt_of_cell? _ _ c7, k7⟩, v8, c8, World.block_lt_of_cell? _ _ c8, k8⟩, ?_⟩
  unfold Tab10 Lib.TabIs
  rw [tab_data] at hd3
  rw [hv3, ← Lib.cells_of_tab Tryz.underlying148 Tryz.underlying130 (by kernel_rfl) (by kernel_rfl) hd3]
theorem law_own : ownKnob Tryz.prog.godebug = none := by kernel_rfl
theorem law_laid : laidOutB Tryz.prog = true := by kernel_rfl

theorem trodAll_stays {H : Type} {enc : TypeId × Value → H} {P : Program} (hl : laidOutB P = true) {W W' : World} {sp' : Nat → Bool} : ∀ {ts : List TypeId} {vs : List Value} {ds : List (DataW H)} {ps : List MemPlace},
    (∀ t ∈ ts, P.readableRec t = true ∧ t < P.types.size) → DataW.TrodAll enc P W 0 (fun _ => true) true ts vs ds ps → (∀ p ∈ ps, W.sameAt W' p) → (∀ p ∈ ps, sp' p.block = true) → DataW.TrodAll enc P W' 0 sp' true ts vs ds ps
  | [], vs, ds, ps, _, h, _, _ => by
    obtain ⟨rfl, rfl, rfl⟩ := trodAll_nil h
    exact trodAll_mk0
  | t :: ts, vs, ds, ps, hr, h, h1, h2 => by
    obtain ⟨v, vs', d, ds', p, q, rfl, rfl, rfl, hv, hrest⟩ := trodAll_cons h
    obtain ⟨r1, r2⟩ := hr t (List.mem_cons.2 (.inl rfl))
    exact trodAll_cons_mk (WideElems.Trod_stays hl r1 r2 hv (fun x hx => h1 x (List.mem_append_left _ hx)) (fun x hx => h2 x (List.mem_append_left _ hx)))
      (trodAll_stays hl (fun t ht => hr t (List.mem_cons.2 (.inr ht))) hrest (fun x hx => h1 x (List.mem_append_right _ hx)) (fun x hx => h2 x (List.mem_append_right _ hx)))

theorem law_types {P : Program} {ts : List TypeId} (h : (ts.all fun t => P.readableRec t && decide (t < P.types.size)) = true) : ∀ t ∈ ts, P.readableRec t = true ∧ t < P.types.size := by
  intro t ht
  have := List.all_eq_true.1 h t ht
  simpa using this

/-- The end of a law's proof. -/
theorem law_post {H : Type} {enc : TypeId × Value → H} {P : Program} {f : Func} {s : ChangeSpec} {W W' : World} {args : Array Value} {ds gs : List (DataW H)} {before : List MemPlace} {tb : TypeId}
    (hl : laidOutB P = true) (hts : ∀ t ∈ f.params.toList, P.readableRec t = true ∧ t < P.types.size) (hvars : s.vars = []) (hres : f.resultTypes = #[tb]) (htb : P.underlying tb = some .bool)
    (hspec : s.fn H ds = { results := [.lit (.bool true)], args := ds, vars := [] }) (hW : DataW.Whole enc P f.params.toList s.vars false W args.toList ds gs before) (hb : Below W.heap.size W W') :
    s.post enc P f false true false false W args (.bool true) W' := by
  have hW' := hW
  have hlt : ∀ p ∈ before, p.block < W.heap.size := fun p hp => hW.lt p hp
  obtain ⟨p, q, hA, hV, rfl, _, _⟩ := hW
  rw [hvars] at hV
  obtain ⟨rfl, rfl⟩ := trodVars_none hV
  have hsp : s.fn H (ds ++ []) = { results := [.lit (.bool true)], args := ds, vars := [] } := by rw [List.append_nil]; exact hspec
  refine ⟨ds, [], p ++ [], [], p, [], hW', ?_, ?_, ?_, hb.frame _, fun h => by cases h⟩
  · rw [hsp, hres]
    exact trodAll_cons_mk (shut_bool htb true) trodAll_mk0
  · rw [hsp]
    exact trodAll_stays hl hts hA (fun x hx => hb.same (hlt x (by simpa using hx))) (fun x hx => by simpa using hlt x (by simpa using hx))
  · rw [hsp, hvars]; rfl

/-- From the walk to the row's statement, for a row that lists variables, with the shape of the world at hand. -/
theorem handed_laid_shaped {H : Type} {enc : TypeId × Value → H} {a : Assume} {C : Checked} {os : Os} {f : FuncId} {fn : Func} {s : ChangeSpec} {conds : List PathCond} {apart fresh handsOn again : Bool} {X : World → Array Value → Prop}
    (hX : ∀ (w w' : World) (args : Array Value), w.heap = w'.heap → X w args → X w' args)
    (own : ownKnob C.prog.godebug = none) (started : os.Started) (noInit : C.prog.inits.idxOf? f = none) (hfn : C.prog.funcs[f]? = some fn)
    (witness : ∃ (w : World) (tape : Tape) (i : Input), w.os = os ∧ (w.forCall tape i).Shaped C.prog ∧ i.vars = [] ∧ Input.okWide C.prog (w.forCall tape i) .any w.heap.size f i ∧
      ((s.pre enc C.prog fn conds apart (w.forCall tape i).memory i.args ∧ X (w.forCall tape i).memory i.args) ∧ sizedMet enc C.prog fn (OpenSpec.ofChange s) apart (w.forCall tape i).memory i.args) ∧ a.holds C.prog (lone (Frame.enter C.prog f i.args .normal) [] (w.forCall tape i)))
    (contract : ∀ (W : World) (base : Nat) (args : Array Value) (ds gs : List (DataW H)) (before : List MemPlace),
      (∀ (j : Nat) t v, fn.params[j]? = some t → args[j]? = some v → Value.okWide C.prog W .any base t v) →
      DataW.Whole enc C.prog fn.params.toList s.vars apart W args.toList ds gs before → X W args → W.ShapedOpen C.prog →
      Calls C.prog f args W fun e W' => ∃ v, e = .returned v ∧ s.post enc C.prog fn apart fresh handsOn again W args v W') :
    ReturnsInHanded a C os f .any (fun w args => (s.pre enc C.prog fn conds apart w args ∧ X w args) ∧ sizedMet enc C.prog fn (OpenSpec.ofChange s) apart w args) (s.post enc C.prog fn apart fresh handsOn again) := by
  refine returnsInHanded_of_calls own started noInit witness ?_
  intro w tape i _ hsh _ hok hpre _
  obtain ⟨_, _, _, fn', hfn', _, _, _, _, hval⟩ := hok
  have e : fn' = fn := Option.some.inj (hfn'.symm.trans hfn)
  subst e
  obtain ⟨⟨⟨ds, gs, before, hw, _⟩, hx⟩, _⟩ := hpre
  have hw' := DataW.Whole.of_heap (w' := w.forCall tape i) (by rfl) hw
  refine (contract (w.forCall tape i) w.heap.size i.args ds gs before hval hw' (hX _ _ _ (by rfl) hx) hsh).mono fun e W' ⟨v, he, hp⟩ => ?_
  subst he
  exact ChangeSpec.post_blind hp
end Go.Proofs.YtganlldidjbpiaaGreatDoor

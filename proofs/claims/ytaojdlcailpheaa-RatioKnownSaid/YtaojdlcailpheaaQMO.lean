/- Walks of the statements' own functions: own, at arguments; same. -/
import Derived.Test.YtaojdlcailpheaaK29
import Derived.Test.YtaojdlcailpheaaK30
import Derived.Maps.AppendAt
set_option linter.unusedVariables false
namespace Go.Proofs.Ytaojdlcailpheaa
open Go.RowKit

theorem SlA.cutN {w : World} {p : Option Addr} {c : Nat} {l : List Nat} (k : Nat) (h : SlA w (.slice p l.length c) l) : SlA w (.slice p (min (l.length : Int) (k : Int)).toNat c) (l.take k) := by
  obtain ⟨h0, a, cap, h1, h2, h3, h5, h6⟩ := h
  obtain ⟨rfl, rfl⟩ : p = a ∧ c = cap := by injection h1 with e1 _ e3; exact ⟨e1, e3⟩
  have hn : (min (l.length : Int) (k : Int)).toNat = (l.take k).length := by rw [List.length_take]; omega
  refine ⟨h0.take k, p, c, by rw [hn], by rw [List.length_take]; omega, h3, h5, fun hl => ?_⟩
  rw [List.length_take] at hl
  obtain ⟨b, off, ha, hlt, hc⟩ := h6 (by omega)
  refine ⟨b, off, ha, hlt, fun i hi => ?_⟩
  rw [List.length_take] at hi
  rw [lim_take (by omega)]
  exact hc i (by omega)
set_option maxHeartbeats 1000000 in
/-- An append of whatever row to an empty one, in a region. -/
theorem own_append {ops : Array Oper} {o : Oper} {a : Act} {w : World} {K : Act → World → Prop} {Q : Exit → Act → World → Prop} {E : Prop} (hgd : o.guard = none) (s x : Operand)
    (ho : o.op = .call { callee := .builtin .append, args := #[s, x], argTypes := #[23, 23] })
    (hs : a.eval s = .slice none 0 0) (v : Value) (l : List Nat) (hx : a.eval x = v) (hv : SlA w v l) (hl : l.length ≤ 1000)
    (h : ∀ v' w', Sl w' v' l → Below w.heap.size w w' → K (a.put o.dst v') w') :
    if Region.wanted o (yielded ops a.tmps) = true then Oper.wp Try.prog o a w K Q else E := by
  have hw : Region.wanted o (yielded ops a.tmps) = true := by simp [Region.wanted, hgd]
  rw [if_pos hw]
  have hv' := hv
  obtain ⟨h0, p, cap, rfl, h2, h3, h5, h6⟩ := hv
  rcases p with _ | ad
  · have hz := h5 rfl
    have hl0 : l = [] := List.length_eq_zero_iff.1 (by omega)
    subst hl0; subst hz
    unfold Oper.wp execOp
    simp only [ho, resolve, invoke, builtin, Sem.run_bind, Sem.run_pure, Result.andThen_ok, List.map_toArray, List.map_cons, List.map_nil, hs, hx]
    have hr : (Builtin.append_ #[23, 23] o.type #[.slice none 0 0, .slice none 0 0]).run Try.prog w = .ok (.slice none 0 0) w := by
      obtain ⟨i0, hi, _⟩ := info_parts info32
      simp [Builtin.append_, run_underlying Try.underlying23, hi, sizeOf, typeInfo, Builtin.lenOf, Builtin.firstCells]
    simp only [List.length_nil, hr]
    exact h _ _ (Sl.nil w) (Below.refl _ w)
  · have hown := World.ownsRow_nil w w.heap.size 51 1
    obtain ⟨i0, hi, hz0, hz1, hz2⟩ := info_parts info32
    obtain ⟨v', w', hr, q1, q2, _, _⟩ := run_append_own_at (P := Try.prog) w w.heap.size 23 o.type 51 i0 (.int .u32 0) 1 4 Try.underlying23 hi hz0 hz1 hz2 rfl (by decide) (.slice none 0 0) 0 [] hown ad l.length cap (l.map u32) (by simp) hv'.news (fun u hu => one_u32 hu) (by have : maxLen = 9223372036854775807 := rfl; omega) (by omega) (Nat.le_refl _)
    unfold Oper.wp execOp
    simp only [ho, resolve, invoke, builtin, Sem.run_bind, Sem.run_pure, Result.andThen_ok, List.map_toArray, List.map_cons, List.map_nil, hs, hx, hr]
    exact h _ _ (Sl.of_own (l := l) (by simpa using q1) h0) ((Below.refl _ w).grown q2 (Nat.le_refl _) (fun k hk => by simp [Value.ownBlock] at hk))

/-- What own makes of a fraction. -/
def cut40 (x : F) : F := ⟨x.neg, x.num.take 40, x.den.take 40⟩
set_option maxRecDepth 100000 in
set_option maxHeartbeats 2000000 in
theorem own40_a (w : World) (v : Value) (x : F) (h : IsFA w v x) : Calls Try.prog 13 #[v] w (RetF1 w (cut40 x)) := by
  have HX := h
  obtain ⟨va, vb, rfl, h1, h2⟩ := h
  obtain ⟨p, cp, rfl, hp1, hp2⟩ := h1.shape
  obtain ⟨q, cq, rfl, hq1, hq2⟩ := h2.shape
  obtain ⟨W0, hW, bx, br, hsz, hb0⟩ := start2 w #[.bool x.neg, .slice p x.num.length cp, .slice q x.den.length cq] #[.bool false, .slice none 0 0, .slice none 0 0] 25
  obtain ⟨c0, c1, c2⟩ := bx.cells3
  have hlx := bx.lt
  have H1 : Hid (SlA W0.drew (.slice p (min (x.num.length : Int) 40).toNat cp) (x.num.take 40)) := ((h1.after hb0).cutN 40).after (below_dr (Below.refl _ _))
  have H2 := Lib.hid ((h2.after hb0).cutN 40)
  have L1 : (x.num.take 40).length ≤ 1000 := by simp; omega
  have L2 : (x.den.take 40).length ≤ 1000 := by simp; omega
  have HB0 := Lib.hid hb0
  have BR := Lib.hid br
  have mkS : Hid (∀ w', Below W0.heap.size W0 w' → w'.cell? ⟨w.heap.size, 0, none⟩ = some (.bool x.neg) ∧ w'.cell? ⟨w.heap.size, 1, none⟩ = some (.slice p x.num.length cp) ∧ w'.cell? ⟨w.heap.size, 2, none⟩ = some (.slice q x.den.length cq)) :=
    fun w' hb => ⟨keep_cell hb c0, keep_cell hb c1, keep_cell hb c2⟩
  have m1 : (0 : Int) ≤ min (x.num.length : Int) 40 := by omega
  have m2 : min (x.num.length : Int) 40 ≤ (cp : Int) := by omega
  have m3 : (0 : Int) ≤ min (x.den.length : Int) 40 := by omega
  have m4 : min (x.den.length : Int) 40 ≤ (cq : Int) := by omega
  clear bx br HX h1 h2 hb0
  go_enter Try.func13, Try.ntmps13
  go_upto_region 1 with fail
  rw [← hW]
  clear hW
  go_upto_region 2 with fail
  go_region_held3 (fun w' => w'.cell? ⟨w.heap.size, 0, none⟩ = some (.bool x.neg) ∧ w'.cell? ⟨w.heap.size, 1, none⟩ = some (.slice p x.num.length cp) ∧ w'.cell? ⟨w.heap.size, 2, none⟩ = some (.slice q x.den.length cq))
    (first | (refine mkS.out _ ?_; (repeat (first | with_reducible exact hk2 | with_reducible exact hk1 | with_reducible exact Below.refl _ _ | with_reducible refine below_dr ?_)); done) | (with_reducible exact keep3x (by omega) (mkS.out _ hk2)))
    (first
     | (refine own_append (by rfl) _ _ (by rfl) (by rfl) _ (x.num.take 40) (by rfl) H1.out L1 ?_; intro v1 w1 hv1 hb1; obtain ⟨p1, cp1, rfl, _, _⟩ := hv1.shape; have hk1 : Below W0.heap.size W0 w1 := below_of_drew hb1)
     | (refine own_append (by rfl) _ _ (by rfl) (by rfl) _ (x.den.take 40) (by rfl) (H2.out.after hk1) L2 ?_; intro v2 w2 hv2 hb2; obtain ⟨p2, cp2, rfl, _, _⟩ := hv2.shape; have hk2 : Below W0.heap.size W0 w2 := hk1.trans (hb2.mono hk1.size); have hB2 := BR.out.after hk2; obtain ⟨r0, r1, r2⟩ := hB2.cells3; have f0 := hB2.frozen 0; have f1 := hB2.frozen 1; have f2 := hB2.frozen 2; have hlr := hB2.lt)
     | (fail))
  all_goals
    (have HS1 := Lib.hid (hv1.after hb2)
     have HS2 := Lib.hid hv2
     have HK2 := Lib.hid (HB0.out.trans (hk2.mono HB0.out.size))
     have HR2 := Lib.hid hB2
     have l1 : (x.num.take 40).length = min 40 x.num.length := List.length_take
     have l2 : (x.den.take 40).length = min 40 x.den.length := List.length_take
     have L3 := Lib.hid l1
     have L4 := Lib.hid l2
     clear hk1 hk2 hb1 hb2 hv1 hv2 mkS hB2 c0 c1 c2 l1 l2
     go_wp2_with fail
     obtain ⟨e0, e1, e2⟩ := (end_box HR2.out (y0 := .bool x.neg) (y1 := .slice p1 (min 40 x.num.length) cp1) (y2 := .slice p2 (min 40 x.den.length) cp2)).cells3
     refine bodyPost_ret (v := .agg #[.bool x.neg, .slice p1 (min 40 x.num.length) cp1, .slice p2 (min 40 x.den.length) cp2]) (by simp [results, Try.results13, go_sem, e0, e1, e2]) rfl ?_
     refine retF1_end (x := cut40 x) HK2.out HR2.out (fun _ h => by cases h) (fun _ h => by cases h) (Nat.le_succ _) ?_ ?_
     · rw [← L3.out]; exact HS1.out
     · rw [← L4.out]; exact HS2.out)
end Go.Proofs.Ytaojdlcailpheaa

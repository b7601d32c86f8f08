/- Walks of the reference's tails: Upper.
   How a law's statement follows from its walk: the arguments read as they did where nothing below the heap's old size has turned.
   Walks of the statements' own functions: of, one, is.
   Walks of the statements' own functions: one, rate, few, own.
   Fractions that come in as arguments: their rows may lie in memory of whatever type. What the statements' own() makes of them. -/
import Derived.Test.YtppehiajocgiiaaK19
import Derived.Test.YtppehiajocgiiaaK15
import Derived.Test.YtppehiajocgiiaaK01
import Derived.Test.YtppehiajocgiiaaRows
import Derived.ProofKit
import Derived.OpenShut
import Derived.WideKeyArgs
import Derived.Test.YtppehiajocgiiaaK17
import Derived.Test.YtppehiajocgiiaaK08
import Derived.Test.YtppehiajocgiiaaK09
import Derived.Test.YtppehiajocgiiaaK02
import Derived.Test.YtppehiajocgiiaaK18
import Derived.Lib.SmallJoins
set_option linter.unusedVariables false
namespace Go.Proofs.Ytppehiajocgiiaa
open Go.RowKit

theorem after_new {wi w2 : World} {cs : Array Value} {t : TypeId} (hb : Below (wi.alloc (.cells cs t)).heap.size (wi.alloc (.cells cs t)) w2) : Below wi.heap.size wi w2 ∧ Box w2 wi.heap.size cs t :=
  ⟨((Below.refl _ wi).alloc (Nat.le_refl _) _).trans (hb.mono (by simp)), (Box.new wi cs t).after hb⟩

/-- The error that Upper returns where it returns one at once. -/
def upErr (s : Int) : Int := if s = 0 then 2 else s
set_option maxRecDepth 100000 in
set_option maxHeartbeats 8000000 in
theorem rUpper_bad (w : World) (n k den : Int) (Y : F) (u : Value) (g : IsF w u Y) (s : Int) (t : Bool) (hs : fracE Y = s) (ht : trialsB n k (wrap64 (n + 1)) = t) (hno : ¬ (s = 0 ∧ t = true ∧ 1 ≤ den ∧ den ≤ 1000)) :
    Calls Try.prog 24 #[.int .i64 n, .int .i64 k, u, .int .i64 den] w fun e w' => e = .returned (.tuple #[.int .i64 0, .int .i64 (upErr s)]) ∧ Below w.heap.size w w' := by
  have HG := g
  obtain ⟨vc, vd, rfl, g1, g2⟩ := g
  obtain ⟨W0, hW, br, hsz, hb0⟩ := start1 w #[.bool Y.neg, vc, vd] 25
  have G1 := Lib.hid (HG.after hb0)
  obtain ⟨d0, d1, d2⟩ := br.cells3
  have mkS : Hid (∀ w', Below W0.heap.size W0 w' → w'.cell? ⟨w.heap.size, 0, none⟩ = some (.bool Y.neg) ∧ w'.cell? ⟨w.heap.size, 1, none⟩ = some vc ∧ w'.cell? ⟨w.heap.size, 2, none⟩ = some vd) :=
    fun w' hb => ⟨keep_cell hb d0, keep_cell hb d1, keep_cell hb d2⟩
  have HB0 := Lib.hid hb0
  have sc := fracE_cases Y
  rw [hs] at sc
  have HS := Lib.hid hs
  have HT := Lib.hid ht
  have hk : Hid (Below W0.heap.size W0 W0) := Below.refl _ _
  clear hs ht HG g1 g2 br hb0
  have dc : den < 1 ∨ 1000 < den ∨ (1 ≤ den ∧ den ≤ 1000) := by omega
  cases t <;> rcases sc with rfl | rfl | rfl <;> rcases dc with dc | dc | dc
  all_goals first
    | (refine absurd ⟨rfl, rfl, ?_⟩ hno; exact dc)
    | (clear hno
       go_enter Try.func24, Try.ntmps24
       go_upto_region 1 with fail
       rw [← hW]
       clear hW
       go_wp2_with (first
         | (go_at_call 52; refine (bound_c _ _ Y (G1.out.after hk.out)).mono ?_; rw [HS.out]; rintro e wn ⟨rfl, hbn⟩; replace hk := Lib.hid (hk.out.trans (hbn.mono hk.out.size)); clear d0 d1 d2; obtain ⟨d0, d1, d2⟩ := mkS.out _ hk.out; clear hbn)
         | (go_at_call 37; refine (rtrials_c _ _ _ _).mono ?_; rw [HT.out]; rintro e wn ⟨rfl, hwn⟩; obtain rfl := hwn.symm))
       go_ret2
       exact ⟨rfl, HB0.out.trans (hk.out.mono HB0.out.size)⟩)

theorem upB_mono {n k x y den i j : Nat} (hij : i ≤ j) (hj : j ≤ den) (h : UpB n k x y den i) : UpB n k x y den j :=
  Nat.lt_of_lt_of_le h (Nat.mul_le_mul_right y (tl_rate (by omega) hij n k))
theorem upR_uniq {n k x y den r s : Nat} (h1 : UpR n k x y den r) (h2 : UpR n k x y den s) : r = s := by
  obtain ⟨a1, a2, a3⟩ := h1
  obtain ⟨b1, b2, b3⟩ := h2
  rcases Nat.lt_trichotomy r s with h | h | h
  · have h3 := b2.resolve_left (by omega)
    exact absurd (upB_mono (by omega) (by omega) (a3.resolve_left (by omega))) h3
  · exact h
  · have h3 := a2.resolve_left (by omega)
    exact absurd (upB_mono (by omega) (by omega) (b3.resolve_left (by omega))) h3

set_option maxRecDepth 100000 in
set_option maxHeartbeats 8000000 in
theorem rUpper_good (w : World) (n k x y den : Nat) (u : Value) (g : IsF w u (fr false x y)) (hn : n ≤ 64) (hkn : k ≤ n + 1) (hd0 : 1 ≤ den) (hd1 : den ≤ 1000) (hok : Ok false x y) (hs : fracE (fr false x y) = 0) (ht : trialsB (n : Int) (k : Int) ((n : Int) + 1) = true) :
    Calls Try.prog 24 #[.int .i64 (n : Int), .int .i64 (k : Int), u, .int .i64 (den : Int)] w fun e w' => ∃ m : Nat, UpR n k x y den m ∧ e = .returned (.tuple #[.int .i64 (if (den : Int) < (m : Int) then 0 else (m : Int)), .int .i64 (if (den : Int) < (m : Int) then 7 else 0)]) ∧ Below w.heap.size w w' := by
  have HG := g
  obtain ⟨vc, vd, rfl, g1, g2⟩ := g
  obtain ⟨W0, hW, br, hsz, hb0⟩ := start1 w #[.bool (fr false x y).neg, vc, vd] 25
  have G1 := Lib.hid (HG.after hb0)
  obtain ⟨d0, d1, d2⟩ := br.cells3
  have mkS : Hid (∀ w', Below W0.heap.size W0 w' → w'.cell? ⟨w.heap.size, 0, none⟩ = some (.bool (fr false x y).neg) ∧ w'.cell? ⟨w.heap.size, 1, none⟩ = some vc ∧ w'.cell? ⟨w.heap.size, 2, none⟩ = some vd) :=
    fun w' hb => ⟨keep_cell hb d0, keep_cell hb d1, keep_cell hb d2⟩
  have HB0 := Lib.hid hb0
  have HS := Lib.hid hs
  have HT := Lib.hid ht
  have lx := hok.n32
  have ly := hok.d32
  have hk : Hid (Below W0.heap.size W0 W0) := Below.refl _ _
  clear hs ht HG g1 g2 br hb0
  go_enter Try.func24, Try.ntmps24
  go_upto_region 1 with fail
  rw [← hW]
  clear hW
  go_wp2_with (first
    | (go_at_call 52; refine (bound_c _ _ (fr false x y) (G1.out.after hk.out)).mono ?_; rw [HS.out]; rintro e wn ⟨rfl, hbn⟩; replace hk := Lib.hid (hk.out.trans (hbn.mono hk.out.size)); clear d0 d1 d2; obtain ⟨d0, d1, d2⟩ := mkS.out _ hk.out; clear hbn)
    | (go_at_call 37; refine (rtrials_c _ _ _ _).mono ?_; rw [HT.out]; rintro e wn ⟨rfl, hwn⟩; obtain rfl := hwn.symm))
  clear d0 d1 d2
  go_loopg [10] (den + 1) (fun g t wx => ∃ j : Nat, j ≤ den + 1 ∧ g = den + 1 - j ∧ t = .int .i64 (j : Int) ∧ Hid (j = 0 ∨ ¬ UpB n k x y den (j - 1)) ∧ Hid (Below W0.heap.size W0 wx))
  case atStart => exact ⟨0, Nat.zero_le _, rfl, rfl, .inl rfl, hk.out⟩
  case round =>
    obtain ⟨j, hjn, rfl, rfl, hno, hkx⟩ := hrel
    clear hk
    by_cases hj : j ≤ den
    · obtain ⟨g, a, b, hg, ej, ed, hab, hb0, hb1, hof⟩ := of_rate (by omega) hj hd1
      have hred : Hid (UpB n k x y den j ↔ Abv n a (b - a) x y k) := upB_red hg ej ed hab
      have HOF := Lib.hid hof
      clear ej ed hof hg
      obtain ⟨d0, d1, d2⟩ := mkS.out _ hkx.out
      go_wp2_with fail
      refine (ROf_c _ (j : Int) (den : Int) (by omega) (by omega) (by omega) (by omega)).mono ?_
      rw [HOF.out]
      rintro e w1 ⟨v1, rfl, hv1, hb1'⟩
      obtain ⟨va, vb, rfl, h1, h2⟩ := hv1
      obtain ⟨p, cp, rfl, _, _⟩ := h1.shape
      obtain ⟨q, cq, rfl, _, _⟩ := h2.shape
      have hk1 := Lib.hid (hkx.out.trans (hb1'.mono hkx.out.size))
      have HV : Hid (IsF w1 (.agg #[.bool (fr false a b).neg, .slice p (fr false a b).num.length cp, .slice q (fr false a b).den.length cq]) (fr false a b)) := ⟨_, _, rfl, h1, h2⟩
      have hlt : w.heap.size < w1.heap.size := by have := hk1.out.size; omega
      clear d0 d1 d2 hb1' h1 h2
      obtain ⟨d0, d1, d2⟩ := mkS.out _ hk1.out
      by_cases hA : Abv n a (b - a) x y k
      · have HA := Lib.hid hA
        clear hA
        go_wp2_with (go_at_call 53; refine (rabove_c _ _ _ n k a b x y (HV.out.alloc _) ((G1.out.after hk1.out).alloc _) hkn hn hab hb1 lx ly).mono ?_; intro e wn hrn; obtain ⟨rfl, hbn⟩ := hrn.yes HA.out; have hk := Lib.hid (hk1.out.trans ((after_new hbn).1.mono hk1.out.size)); clear d0 d1 d2 hrn hbn)
        go_ret2
        refine ⟨j, ⟨hjn, hno.out, .inr (hred.out.2 HA.out)⟩, ?_, HB0.out.trans (hk.out.mono HB0.out.size)⟩
        rw [if_neg (by omega), if_neg (by omega)]
        rfl
      · have HA := Lib.hid hA
        clear hA
        go_wp2_with (go_at_call 53; refine (rabove_c _ _ _ n k a b x y (HV.out.alloc _) ((G1.out.after hk1.out).alloc _) hkn hn hab hb1 lx ly).mono ?_; intro e wn hrn; obtain ⟨rfl, hbn⟩ := hrn.no HA.out; have hk := Lib.hid (hk1.out.trans ((after_new hbn).1.mono hk1.out.size)); clear d0 d1 d2 hrn hbn)
        go_roundg (den + 1 - (j + 1))
        case measure => omega
        case rel => exact ⟨j + 1, by omega, rfl, by go_num, .inr (fun h => HA.out (hred.out.1 h)), hk.out⟩
    · obtain rfl : j = den + 1 := by omega
      go_wp2_with fail
      go_ret2
      refine ⟨den + 1, ⟨Nat.le_refl _, hno.out, .inl rfl⟩, ?_, HB0.out.trans (hkx.out.mono HB0.out.size)⟩
      rw [if_pos (by omega), if_pos (by omega)]
      rfl

theorem rUpper_c (w : World) (n k den : Int) (u : Value) (Y : F) (g : IsF w u Y) :
    Calls Try.prog 24 #[.int .i64 n, .int .i64 k, u, .int .i64 den] w fun e w' => ∃ r : Int × Int, e = .returned (.tuple #[.int .i64 r.1, .int .i64 r.2]) ∧ upperF n k Y den r ∧ Below w.heap.size w w' := by
  have ew : IntKind.i64.wrap (n + 1) = wrap64 (n + 1) := IntWalk.i64_left _
  by_cases hc : fracE Y = 0 ∧ trialsB n k (wrap64 (n + 1)) = true ∧ 1 ≤ den ∧ den ≤ 1000
  · obtain ⟨hs, ht, hd0, hd1⟩ := hc
    obtain ⟨x, y, rfl, hok, hxy, ex', ey⟩ := frac_fr hs
    obtain ⟨t1, t2, t3, t4⟩ := trialsB_iff.1 ht
    obtain ⟨N, rfl⟩ : ∃ N : Nat, n = N := ⟨n.toNat, by omega⟩
    obtain ⟨K, rfl⟩ : ∃ K : Nat, k = K := ⟨k.toNat, by omega⟩
    obtain ⟨D, rfl⟩ : ∃ D : Nat, den = D := ⟨den.toNat, by omega⟩
    have e2 : wrap64 ((N : Int) + 1) = (N : Int) + 1 := IntWalk.wrap64_in _ (by omega)
    have ht' := ht
    rw [e2] at t4 ht'
    refine (rUpper_good w N K x y D u g (by omega) (by omega) (by omega) (by omega) hok hs ht').mono ?_
    rintro e w' ⟨m, hm, rfl, hb⟩
    refine ⟨if (D : Int) < (m : Int) then (0, 7) else ((m : Int), 0), ?_, ?_, hb⟩
    · split <;> rfl
    · unfold upperF
      rw [if_pos hs, if_pos ⟨by rw [ew]; exact ht, hd0, hd1⟩, ex', ey]
      exact ⟨m, by simpa using hm, rfl⟩
  · refine (rUpper_bad w n k den Y u g _ _ rfl rfl hc).mono ?_
    rintro e w' ⟨rfl, hb⟩
    refine ⟨(0, upErr (fracE Y)), rfl, ?_, hb⟩
    unfold upperF upErr
    by_cases hs : fracE Y = 0
    · rw [if_pos hs, if_pos hs, if_neg]
      rw [ew]
      exact fun h => hc ⟨hs, h.1, h.2⟩
    · rw [if_neg hs, if_neg hs]
theorem upperF_uniq {n k den : Int} {Y : F} {r s : Int × Int} (h1 : upperF n k Y den r) (h2 : upperF n k Y den s) : r = s := by
  unfold upperF at h1 h2
  by_cases hs : fracE Y = 0
  · rw [if_pos hs] at h1 h2
    by_cases hc : trialsB n k (IntKind.i64.wrap (n + 1)) = true ∧ 1 ≤ den ∧ den ≤ 1000
    · rw [if_pos hc] at h1 h2
      obtain ⟨m, hm, rfl⟩ := h1
      obtain ⟨l, hl, rfl⟩ := h2
      rw [upR_uniq hm hl]
    · rw [if_neg hc] at h1 h2
      rw [h1, h2]
  · rw [if_neg hs] at h1 h2
    rw [h1, h2]
end Go.Proofs.Ytppehiajocgiiaa

namespace Go.Proofs.Ytppehiajocgiiaa
open Go.ChangeShapes Go.WideShapes Go.ChangeAt Go.RowKit

theorem law_own : ownKnob Try.prog.godebug = none := by kernel_rfl
theorem law_laid : laidOutB Try.prog = true := by kernel_rfl

theorem trodAll_stays {H : Type} {enc : TypeId × Value → H} {P : Program} (hl : laidOutB P = true) {W W' : World} {sp' : Nat → Bool} : ∀ {ts : List TypeId} {vs : List Value} {ds : List (DataW H)} {ps : List MemPlace},
    (∀ t ∈ ts, P.readableRec t = true ∧ t < P.types.size) → DataW.TrodAll enc P W 0 (fun _ => true) true ts vs ds ps → (∀ p ∈ ps, W.sameAt W' p) → (∀ p ∈ ps, sp' p.block = true) → DataW.TrodAll enc P W' 0 sp' true ts vs ds ps
  | [], vs, ds, ps, _, h, _, _ => by
    obtain ⟨rfl, rfl, rfl⟩ := trodAll_nil h
    exact trodAll_mk0
  | t :: ts, vs, ds, ps, hr, h, h1, h2 => by
    obtain ⟨v, vs', d, ds', p, q, rfl, rfl, rfl, hv, hrest⟩ := trodAll_cons h
    obtain ⟨r1, r2⟩ := hr t (List.mem_cons.2 (.inl rfl))
    exact trodAll_cons_mk (WideElems.Trod_stays hl r1 r2 hv (fun x hx => h1 x (List.mem_append_left _ hx)) (fun x hx => h2 x (List.mem_append_left _ hx)))
      (trodAll_stays hl (fun t ht => hr t (List.mem_cons.2 (.inr ht))) hrest (fun x hx => h1 x (List.mem_append_right _ hx)) (fun x hx => h2 x (List.mem_append_right _ hx)))

theorem law_types {P : Program} {ts : List TypeId} (h : (ts.all fun t => P.readableRec t && decide (t < P.types.size)) = true) : ∀ t ∈ ts, P.readableRec t = true ∧ t < P.types.size := by
  intro t ht
  have := List.all_eq_true.1 h t ht
  simpa using this

/-- The end of a law's proof. -/
theorem law_post {H : Type} {enc : TypeId × Value → H} {P : Program} {f : Func} {s : ChangeSpec} {W W' : World} {args : Array Value} {ds gs : List (DataW H)} {before : List MemPlace} {tb : TypeId}
    (hl : laidOutB P = true) (hts : ∀ t ∈ f.params.toList, P.readableRec t = true ∧ t < P.types.size) (hvars : s.vars = []) (hres : f.resultTypes = #[tb]) (htb : P.underlying tb = some .bool)
    (hspec : s.fn H ds = { results := [.lit (.bool true)], args := ds, vars := [] }) (hW : DataW.Whole enc P f.params.toList s.vars false W args.toList ds gs before) (hb : Below W.heap.size W W') :
    s.post enc P f false true false false W args (.bool true) W' := by
  have hW' := hW
  have hlt : ∀ p ∈ before, p.block < W.heap.size := fun p hp => hW.lt p hp
  obtain ⟨p, q, hA, hV, rfl, _, _⟩ := hW
  rw [hvars] at hV
  obtain ⟨rfl, rfl⟩ := trodVars_none hV
  have hsp : s.fn H (ds ++ []) = { results := [.lit (.bool true)], args := ds, vars := [] } := by rw [List.append_nil]; exact hspec
  refine ⟨ds, [], p ++ [], [], p, [], hW', ?_, ?_, ?_, hb.frame _, fun h => by cases h⟩
  · rw [hsp, hres]
    exact trodAll_cons_mk (shut_bool htb true) trodAll_mk0
  · rw [hsp]
    exact trodAll_stays hl hts hA (fun x hx => hb.same (hlt x (by simpa using hx))) (fun x hx => by simpa using hlt x (by simpa using hx))
  · rw [hsp, hvars]; rfl
end Go.Proofs.Ytppehiajocgiiaa

namespace Go.Proofs.Ytppehiajocgiiaa
open Go.RowKit

set_option maxRecDepth 100000 in
set_option maxHeartbeats 1000000 in
theorem of_c (w : World) (n d : Int) (h0 : -9223372036854775808 ≤ n) (h1 : n ≤ 9223372036854775807) (k0 : -9223372036854775808 ≤ d) (k1 : d ≤ 9223372036854775807) :
    Calls Try.prog 26 #[.int .i64 n, .int .i64 d] w (RetF1 w (ofF n d).1) := by
  obtain ⟨W0, hW⟩ : ∃ W0, W0 = w.alloc (.cells #[.bool false, .slice none 0 0, .slice none 0 0] 25) := ⟨_, rfl⟩
  have hb0 : Below w.heap.size w W0 := hW ▸ (Below.refl w.heap.size w).alloc (Nat.le_refl _) _
  have br : Box W0 w.heap.size #[.bool false, .slice none 0 0, .slice none 0 0] 25 := hW ▸ Box.new w _ _
  have HB0 := Lib.hid hb0
  have BR := Lib.hid br
  clear hb0 br
  go_enter Try.func26, Try.ntmps26
  go_upto_region 1 with fail
  rw [← hW]
  clear hW
  go_wp2_with fail
  refine (ROf_c _ n d h0 h1 k0 k1).mono ?_
  obtain ⟨o, ho⟩ : ∃ o, ofF n d = o := ⟨_, rfl⟩
  rw [ho]
  have HO := Lib.hid ho
  clear ho
  obtain ⟨⟨neg, A, B⟩, er⟩ := o
  rintro e w1 ⟨v, rfl, hv, hb1⟩
  obtain ⟨va, vb, rfl, h1, h2⟩ := hv
  simp only at h1 h2
  have bx1 := BR.out.after hb1
  obtain ⟨r0, r1, r2⟩ := bx1.cells3
  have f0 := bx1.frozen 0
  have f1 := bx1.frozen 1
  have f2 := bx1.frozen 2
  have hlt := bx1.lt
  have BX1 := Lib.hid bx1
  have HV1 := Lib.hid h1
  have HV2 := Lib.hid h2
  obtain ⟨p, cp, rfl, _, _⟩ := h1.shape
  obtain ⟨q, cq, rfl, _, _⟩ := h2.shape
  have HB1 := Lib.hid (HB0.out.trans (hb1.mono HB0.out.size))
  clear bx1 h1 h2 hb1
  go_wp2_with fail
  obtain ⟨e0, e1, e2⟩ := end_cells BX1.out (y0 := .bool neg) (y1 := .slice p A.length cp) (y2 := .slice q B.length cq) (.cells #[.bool neg, .slice p A.length cp, .slice q B.length cq] 25)
  refine bodyPost_ret (v := .agg #[.bool neg, .slice p A.length cp, .slice q B.length cq]) (by simp [results, Try.results26, go_sem, e0, e1, e2]) rfl ?_
  rw [HO.out]
  exact (retF1_end (x := ⟨neg, A, B⟩) HB1.out BX1.out (fun _ h => by cases h) (fun _ h => by cases h) (Nat.le_refl _) HV1.out HV2.out).alloc _

set_option maxRecDepth 100000 in
set_option maxHeartbeats 1000000 in
theorem is_c (w : World) (v : Value) (x : F) (e n d : Int) (h : IsF w v x) (h0 : -9223372036854775808 ≤ n) (h1 : n ≤ 9223372036854775807) (k0 : -9223372036854775808 ≤ d) (k1 : d ≤ 9223372036854775807) :
    Calls Try.prog 27 #[v, .int .i64 e, .int .i64 n, .int .i64 d] w (RetC w (e = 0 ∧ x = (ofF n d).1)) := by
  obtain ⟨Q, hQ⟩ : ∃ Q : Prop, (e = 0 ∧ x = (ofF n d).1) = Q := ⟨_, rfl⟩
  rw [hQ]
  have hy := Lib.hid (show e = 0 → (Q ↔ x = (ofF n d).1) from fun he => by rw [← hQ]; exact ⟨fun h => h.2, fun h => ⟨he, h⟩⟩)
  have hn := Lib.hid (show e ≠ 0 → ¬ Q from fun he => by rw [← hQ]; exact fun h => he h.1)
  clear hQ
  have HX := h
  obtain ⟨va, vb, rfl, hva, hvb⟩ := h
  obtain ⟨W0, hW, bx, hsz, hb0⟩ := start1 w #[.bool x.neg, va, vb] 25
  obtain ⟨c0, c1, c2⟩ := bx.cells3
  have H1 := Lib.hid (HX.after hb0)
  have HB0 := Lib.hid hb0
  have mkS : Hid (∀ w', Below W0.heap.size W0 w' → w'.cell? ⟨w.heap.size, 0, none⟩ = some (.bool x.neg) ∧ w'.cell? ⟨w.heap.size, 1, none⟩ = some va ∧ w'.cell? ⟨w.heap.size, 2, none⟩ = some vb) :=
    fun w' hb => ⟨keep_cell hb c0, keep_cell hb c1, keep_cell hb c2⟩
  clear bx HX hva hvb hb0
  by_cases he : e = 0
  · have hy2 := Lib.hid (hy.out he)
    subst he
    clear c0 c1 c2 hy hn
    go_enter Try.func27, Try.ntmps27
    go_upto_region 1 with fail
    rw [← hW]
    clear hW
    go_region_held3 (fun w' => w'.cell? ⟨w.heap.size, 0, none⟩ = some (.bool x.neg) ∧ w'.cell? ⟨w.heap.size, 1, none⟩ = some va ∧ w'.cell? ⟨w.heap.size, 2, none⟩ = some vb)
      (first | (refine mkS.out _ ?_; (repeat (first | with_reducible exact hk2 | with_reducible exact hk1 | with_reducible exact Below.refl _ _ | with_reducible refine below_dr ?_)); done))
      (first
       | (go_at_call 26; refine (of_c _ n d h0 h1 k0 k1).mono ?_; rintro e w1 ⟨v1, rfl, hv1, hb1⟩; have hk1 := below_of_drew hb1)
       | (go_at_call 17; refine (Same_c _ _ _ x _ (H1.out.after hk1) hv1).mono ?_; rintro e w2 ⟨r, rfl, hr, hb2⟩; have hk2 := hk1.trans (hb2.mono hk1.size)))
    have KW := Lib.hid (HB0.out.trans (hk2.mono HB0.out.size))
    have HR := Lib.hid hr
    clear hr hk1 hk2 hb1 hb2 hv1 mkS
    go_wp2_with fail
    go_ret
    exact ⟨r, rfl, HR.out.trans hy2.out.symm, KW.out⟩
  · have hne : (e == 0) = false := beq_eq_false_iff_ne.2 he
    have hne' := Lib.hid he
    clear he
    go_enter Try.func27, Try.ntmps27
    go_upto_region 1 with fail
    rw [← hW]
    clear hW
    first
    | (go_region_with fail)
    | (fail)
    all_goals
     ((try (go_wp2_with fail))
      go_ret
      exact ⟨false, rfl, (iff_of_false (fun h => nomatch h) (hn.out hne'.out)), HB0.out.trans (below_dr (Below.refl _ _))⟩)
end Go.Proofs.Ytppehiajocgiiaa

namespace Go.Proofs.Ytppehiajocgiiaa
open Go.RowKit

set_option maxRecDepth 100000 in
set_option maxHeartbeats 1000000 in
theorem lone_c (w : World) : Calls Try.prog 31 #[] w (RetF1 w (ofF 1 1).1) := by
  obtain ⟨W0, hW⟩ : ∃ W0, W0 = w.alloc (.cells #[.bool false, .slice none 0 0, .slice none 0 0] 25) := ⟨_, rfl⟩
  have hb0 : Below w.heap.size w W0 := hW ▸ (Below.refl w.heap.size w).alloc (Nat.le_refl _) _
  have br : Box W0 w.heap.size #[.bool false, .slice none 0 0, .slice none 0 0] 25 := hW ▸ Box.new w _ _
  have HB0 := Lib.hid hb0
  have BR := Lib.hid br
  clear hb0 br
  go_enter Try.func31, Try.ntmps31
  go_upto_region 1 with fail
  rw [← hW]
  clear hW
  go_wp2_with fail
  refine (of_c _ 1 1 (by omega) (by omega) (by omega) (by omega)).mono ?_
  obtain ⟨o, ho⟩ : ∃ o, (ofF 1 1).1 = o := ⟨_, rfl⟩
  rw [ho]
  have HO := Lib.hid ho
  clear ho
  obtain ⟨neg, A, B⟩ := o
  rintro e w1 ⟨v, rfl, hv, hb1⟩
  obtain ⟨va, vb, rfl, h1, h2⟩ := hv
  simp only at h1 h2
  have bx1 := BR.out.after hb1
  obtain ⟨r0, r1, r2⟩ := bx1.cells3
  have f0 := bx1.frozen 0
  have f1 := bx1.frozen 1
  have f2 := bx1.frozen 2
  have hlt := bx1.lt
  have BX1 := Lib.hid bx1
  have HV1 := Lib.hid h1
  have HV2 := Lib.hid h2
  obtain ⟨p, cp, rfl, _, _⟩ := h1.shape
  obtain ⟨q, cq, rfl, _, _⟩ := h2.shape
  have HB1 := Lib.hid (HB0.out.trans (hb1.mono HB0.out.size))
  clear bx1 h1 h2 hb1
  go_wp2_with fail
  obtain ⟨e0, e1, e2⟩ := (end_box BX1.out (y0 := .bool neg) (y1 := .slice p A.length cp) (y2 := .slice q B.length cq)).cells3
  refine bodyPost_ret (v := .agg #[.bool neg, .slice p A.length cp, .slice q B.length cq]) (by simp [results, Try.results31, go_sem, e0, e1, e2]) rfl ?_
  rw [HO.out]
  exact retF1_end (x := ⟨neg, A, B⟩) HB1.out BX1.out (fun _ h => by cases h) (fun _ h => by cases h) (Nat.le_refl _) HV1.out HV2.out

set_option maxRecDepth 100000 in
set_option maxHeartbeats 1000000 in
theorem lrate_c (w : World) (a b : Nat) (ha : a < 256) (hb : b < 256) : Calls Try.prog 25 #[.int .u8 (a : Int), .int .u8 (b : Int)] w (RetF1 w (ofF ((a % (b % 30 + 2) : Nat) : Int) ((b % 30 + 1 : Nat) : Int)).1) := by
  obtain ⟨W0, hW⟩ : ∃ W0, W0 = w.alloc (.cells #[.bool false, .slice none 0 0, .slice none 0 0] 25) := ⟨_, rfl⟩
  have hb0 : Below w.heap.size w W0 := hW ▸ (Below.refl w.heap.size w).alloc (Nat.le_refl _) _
  have br : Box W0 w.heap.size #[.bool false, .slice none 0 0, .slice none 0 0] 25 := hW ▸ Box.new w _ _
  have HB0 := Lib.hid hb0
  have BR := Lib.hid br
  obtain ⟨o, ho⟩ : ∃ o, (ofF ((a % (b % 30 + 2) : Nat) : Int) ((b % 30 + 1 : Nat) : Int)).1 = o := ⟨_, rfl⟩
  rw [ho]
  have e1 : ((a % (b % 30 + 2) : Nat) : Int) = (a : Int) % (1 + (b : Int) % 30 + 1) := by
    have : (1 + (b : Int) % 30 + 1) = ((b % 30 + 2 : Nat) : Int) := by omega
    rw [this]; rfl
  have e2 : ((b % 30 + 1 : Nat) : Int) = 1 + (b : Int) % 30 := by omega
  have hlt : a % (b % 30 + 2) < 300 := Nat.lt_of_le_of_lt (Nat.mod_le _ _) (by omega)
  have g0 : Hid (-9223372036854775808 ≤ (a : Int) % (1 + (b : Int) % 30 + 1)) := by show _ ≤ _; omega
  have g1 : Hid ((a : Int) % (1 + (b : Int) % 30 + 1) ≤ 9223372036854775807) := by show _ ≤ _; omega
  have HO := Lib.hid (show (ofF ((a : Int) % (1 + (b : Int) % 30 + 1)) (1 + (b : Int) % 30)).1 = o by rw [← ho, e1, e2])
  clear hb0 br e1 e2 hlt ho
  go_enter Try.func25, Try.ntmps25
  go_upto_region 1 with fail
  rw [← hW]
  clear hW
  go_wp2_with fail
  refine (of_c _ ((a : Int) % (1 + (b : Int) % 30 + 1)) (1 + (b : Int) % 30) g0.out g1.out (by omega) (by omega)).mono ?_
  rw [HO.out]
  obtain ⟨neg, A, B⟩ := o
  rintro e w1 ⟨v, rfl, hv, hb1⟩
  obtain ⟨va, vb, rfl, h1, h2⟩ := hv
  simp only at h1 h2
  have bx1 := BR.out.after hb1
  obtain ⟨r0, r1, r2⟩ := bx1.cells3
  have f0 := bx1.frozen 0
  have f1 := bx1.frozen 1
  have f2 := bx1.frozen 2
  have hlt := bx1.lt
  have BX1 := Lib.hid bx1
  have HV1 := Lib.hid h1
  have HV2 := Lib.hid h2
  obtain ⟨p, cp, rfl, _, _⟩ := h1.shape
  obtain ⟨q, cq, rfl, _, _⟩ := h2.shape
  have HB1 := Lib.hid (HB0.out.trans (hb1.mono HB0.out.size))
  clear bx1 h1 h2 hb1
  go_wp2_with fail
  obtain ⟨e0, e1, e2⟩ := (end_box BX1.out (y0 := .bool neg) (y1 := .slice p A.length cp) (y2 := .slice q B.length cq)).cells3
  refine bodyPost_ret (v := .agg #[.bool neg, .slice p A.length cp, .slice q B.length cq]) (by simp [results, Try.results25, go_sem, e0, e1, e2]) rfl ?_
  exact retF1_end (x := ⟨neg, A, B⟩) HB1.out BX1.out (fun _ h => by cases h) (fun _ h => by cases h) (Nat.le_refl _) HV1.out HV2.out


/-- A row cut to 34 limbs. -/
def cut34 (x : F) : F := ⟨x.neg, x.num.take 34, x.den.take 34⟩
/-- Fewer trials. -/
def fewN (n : Int) : Int := if 20 < n ∧ n < 64 then 20 else n

theorem few_c (w : World) (n : Int) : Calls Try.prog 10 #[.int .i64 n] w (fun e w' => e = .returned (.int .i64 (fewN n)) ∧ w' = w) := by
  by_cases h1 : 20 < n
  · by_cases h2 : n < 64
    · have hs : Hid (fewN n = 20) := by show _ = _; unfold fewN; rw [if_pos ⟨h1, h2⟩]
      go_enter Try.func10, Try.ntmps10
      go_wp2
      go_ret
      exact ⟨ret_int (by rw [hs.out]), rfl⟩
    · have hs : Hid (fewN n = n) := by show _ = _; unfold fewN; rw [if_neg (by omega)]
      go_enter Try.func10, Try.ntmps10
      go_wp2
      go_ret
      exact ⟨ret_int (by rw [hs.out]), rfl⟩
  · have hs : Hid (fewN n = n) := by show _ = _; unfold fewN; rw [if_neg (by omega)]
    go_enter Try.func10, Try.ntmps10
    go_wp2
    go_ret
    exact ⟨ret_int (by rw [hs.out]), rfl⟩

theorem Sl.cut {w : World} {p : Option Addr} {c : Nat} {l : List Nat} (h : Sl w (.slice p l.length c) l) : Sl w (.slice p (min (l.length : Int) 34).toNat c) (l.take 34) := by
  have := h.front (min l.length 34) (by omega)
  have e1 : (min (l.length : Int) 34).toNat = min l.length 34 := by omega
  have e2 : l.take (min l.length 34) = l.take 34 := by
    rcases Nat.le_total l.length 34 with h1 | h1
    · rw [Nat.min_eq_left h1, List.take_of_length_le h1, List.take_of_length_le (Nat.le_refl _)]
    · rw [Nat.min_eq_right h1]
  rw [e1, ← e2]; exact this

set_option maxRecDepth 100000 in
set_option maxHeartbeats 1000000 in
theorem own_c (w : World) (v : Value) (x : F) (h : IsF w v x) : Calls Try.prog 11 #[v] w (RetF1 w (cut34 x)) := by
  have HX := h
  obtain ⟨va, vb, rfl, h1, h2⟩ := h
  obtain ⟨p, cp, rfl, hp1, hp2⟩ := h1.shape
  obtain ⟨q, cq, rfl, hq1, hq2⟩ := h2.shape
  obtain ⟨W0, hW, bx, br, hsz, hb0⟩ := start2 w #[.bool x.neg, .slice p x.num.length cp, .slice q x.den.length cq] #[.bool false, .slice none 0 0, .slice none 0 0] 25
  obtain ⟨c0, c1, c2⟩ := bx.cells3
  have H1 := Lib.hid (h1.after hb0).cut
  have H2 := Lib.hid (h2.after hb0).cut
  have L1 := Lib.hid (show (x.num.take 34).length ≤ 1000000 by simp; omega)
  have L2 := Lib.hid (show (x.den.take 34).length ≤ 1000000 by simp; omega)
  have HB0 := Lib.hid hb0
  have BR := Lib.hid br
  have mkS : Hid (∀ w', Below W0.heap.size W0 w' → w'.cell? ⟨w.heap.size, 0, none⟩ = some (.bool x.neg) ∧ w'.cell? ⟨w.heap.size, 1, none⟩ = some (.slice p x.num.length cp) ∧ w'.cell? ⟨w.heap.size, 2, none⟩ = some (.slice q x.den.length cq)) :=
    fun w' hb => ⟨keep_cell hb c0, keep_cell hb c1, keep_cell hb c2⟩
  have m1 : (0 : Int) ≤ min (x.num.length : Int) 34 := by omega
  have m2 : min (x.num.length : Int) 34 ≤ (cp : Int) := by omega
  have m3 : (0 : Int) ≤ min (x.den.length : Int) 34 := by omega
  have m4 : min (x.den.length : Int) 34 ≤ (cq : Int) := by omega
  clear bx br HX h1 h2 hb0 c0 c1 c2
  go_enter Try.func11, Try.ntmps11
  go_upto_region 1 with fail
  rw [← hW]
  clear hW
  go_region_held3 (fun w' => w'.cell? ⟨w.heap.size, 0, none⟩ = some (.bool x.neg) ∧ w'.cell? ⟨w.heap.size, 1, none⟩ = some (.slice p x.num.length cp) ∧ w'.cell? ⟨w.heap.size, 2, none⟩ = some (.slice q x.den.length cq))
    (first | (refine mkS.out _ ?_; (repeat (first | with_reducible exact hk2 | with_reducible exact hk1 | with_reducible exact Below.refl _ _ | with_reducible refine below_dr ?_)); done) | (with_reducible exact keep3z (by omega) (mkS.out _ hk2)))
    (first
     | (go_at_call_of 34 p; refine (clone_c _ _ _ (H1.out.after (below_dr (Below.refl _ W0))) L1.out).mono ?_; rintro e w1 ⟨v1, rfl, hv1, hb1⟩; obtain ⟨p1, cp1, rfl, _, _⟩ := hv1.shape; have hk1 := below_of_drew hb1)
     | (go_at_call_of 34 q; refine (clone_c _ _ _ (H2.out.after hk1) L2.out).mono ?_; rintro e w2 ⟨v2, rfl, hv2, hb2⟩; obtain ⟨p2, cp2, rfl, _, _⟩ := hv2.shape; have hk2 := hk1.trans (hb2.mono hk1.size); obtain ⟨r0, r1, r2⟩ := (BR.out.after hk2).cells3; have f0 := (BR.out.after hk2).frozen 0; have f1 := (BR.out.after hk2).frozen 1; have f2 := (BR.out.after hk2).frozen 2))
  all_goals
    (have HS1 := Lib.hid (hv1.after hb2)
     have HS2 := Lib.hid hv2
     have HK2 := Lib.hid (HB0.out.trans (hk2.mono HB0.out.size))
     have HR2 := Lib.hid (BR.out.after hk2)
     have l1 : (x.num.take 34).length = min 34 x.num.length := List.length_take
     have l2 : (x.den.take 34).length = min 34 x.den.length := List.length_take
     have L3 := Lib.hid l1
     have L4 := Lib.hid l2
     clear hk1 hk2 hb1 hb2 hv1 hv2 mkS l1 l2
     go_wp2_with fail
     obtain ⟨e0, e1, e2⟩ := (end_box HR2.out (y0 := .bool x.neg) (y1 := .slice p1 (min 34 x.num.length) cp1) (y2 := .slice p2 (min 34 x.den.length) cp2)).cells3
     refine bodyPost_ret (v := .agg #[.bool x.neg, .slice p1 (min 34 x.num.length) cp1, .slice p2 (min 34 x.den.length) cp2]) (by simp [results, Try.results11, go_sem, e0, e1, e2]) rfl ?_
     refine retF1_end (x := cut34 x) HK2.out HR2.out (fun _ h => by cases h) (fun _ h => by cases h) (Nat.le_succ _) ?_ ?_
     · rw [← L3.out]; exact HS1.out
     · rw [← L4.out]; exact HS2.out)
end Go.Proofs.Ytppehiajocgiiaa

namespace Go.Proofs.Ytppehiajocgiiaa
open Go.RowKit

/-- As Sl, of an argument: nothing is asked of the type of the memory that it lies in. -/
def SlA (w : World) (v : Value) (l : List Nat) : Prop :=
  Lb l ∧ ∃ (a : Option Addr) (cap : Nat), v = .slice a l.length cap ∧ l.length ≤ cap ∧ cap ≤ 9223372036854775807 ∧ (a = none → cap = 0) ∧
    (0 < l.length → ∃ b off, a = some ⟨b, off, none⟩ ∧ b < w.heap.size ∧ ∀ i, i < l.length → w.cell? ⟨b, off + i, none⟩ = some (.int .u32 ((lim l i : Nat) : Int)))
theorem SlA.after {w w' : World} {v : Value} {l : List Nat} (h : SlA w v l) (hb : Below w.heap.size w w') : SlA w' v l := by
  obtain ⟨h0, a, cap, h1, h2, h3, h5, h6⟩ := h
  refine ⟨h0, a, cap, h1, h2, h3, h5, fun hl => ?_⟩
  obtain ⟨b, off, ha, hlt, hc⟩ := h6 hl
  exact ⟨b, off, ha, Nat.lt_of_lt_of_le hlt hb.size, fun i hi => keep_cell hb (hc i hi)⟩
theorem SlA.alloc {w : World} {v : Value} {l : List Nat} (h : SlA w v l) (o : Obj) : SlA (w.alloc o) v l := h.after ((Below.refl _ w).alloc (Nat.le_refl _) o)
theorem SlA.shape {w : World} {v : Value} {l : List Nat} (h : SlA w v l) : ∃ a cap, v = .slice a l.length cap ∧ l.length ≤ cap ∧ cap ≤ 9223372036854775807 := by
  obtain ⟨_, a, cap, h1, h2, h3, _, _⟩ := h
  exact ⟨a, cap, h1, h2, h3⟩
theorem SlA.cut {w : World} {p : Option Addr} {c : Nat} {l : List Nat} (h : SlA w (.slice p l.length c) l) : SlA w (.slice p (min (l.length : Int) 34).toNat c) (l.take 34) := by
  obtain ⟨h0, a, cap, h1, h2, h3, h5, h6⟩ := h
  obtain ⟨rfl, rfl⟩ : p = a ∧ c = cap := by injection h1 with e1 _ e3; exact ⟨e1, e3⟩
  have hn : (min (l.length : Int) 34).toNat = (l.take 34).length := by rw [List.length_take]; omega
  refine ⟨h0.take 34, p, c, by rw [hn], by rw [List.length_take]; omega, h3, h5, fun hl => ?_⟩
  rw [List.length_take] at hl
  obtain ⟨b, off, ha, hlt, hc⟩ := h6 (by omega)
  refine ⟨b, off, ha, hlt, fun i hi => ?_⟩
  rw [List.length_take] at hi
  rw [lim_take (by omega)]
  exact hc i (by omega)
theorem SlA.news {w : World} {ad : Addr} {n cap : Nat} {l : List Nat} (h : SlA w (.slice (some ad) n cap) l) : ∀ j u, (l.map u32)[j]? = some u → w.cell? (ad.add j) = some u := by
  obtain ⟨_, a, c, h1, _, _, _, h6⟩ := h
  obtain rfl : some ad = a := by injection h1
  intro j u hj
  have hl : j < l.length := by
    rcases Nat.lt_or_ge j l.length with h | h
    · exact h
    · rw [List.getElem?_eq_none (by simpa using h)] at hj; cases hj
  obtain ⟨b, off, ha, _, hc⟩ := h6 (by omega)
  obtain rfl : ad = ⟨b, off, none⟩ := by injection ha
  have hadd : (⟨b, off, none⟩ : Addr).add j = ⟨b, off + j, none⟩ := by unfold Addr.add; split <;> simp_all
  rw [hadd, hc j hl]
  rw [List.getElem?_map, List.getElem?_eq_getElem hl] at hj
  rw [lim_get hl]
  exact hj
/-- As IsF, of an argument. -/
def IsFA (w : World) (v : Value) (x : F) : Prop := ∃ va vb, v = .agg #[.bool x.neg, va, vb] ∧ SlA w va x.num ∧ SlA w vb x.den
theorem IsFA.after {w w' : World} {v : Value} {x : F} (h : IsFA w v x) (hb : Below w.heap.size w w') : IsFA w' v x := by
  obtain ⟨va, vb, e, h1, h2⟩ := h
  exact ⟨va, vb, e, h1.after hb, h2.after hb⟩

set_option maxHeartbeats 1000000 in
theorem clone_a (w : World) (va : Value) (a : List Nat) (h : SlA w va a) (ha : a.length ≤ 1000000) :
    Calls Try.prog 34 #[va] w fun e w' => ∃ v, e = .returned v ∧ Sl w' v a ∧ Below w.heap.size w w' := by
  have hs := h
  obtain ⟨h0, p, cap, rfl, h2, h3, h5, h6⟩ := h
  rcases p with _ | ad
  · have hz := h5 rfl
    have hl : a = [] := List.length_eq_zero_iff.1 (by omega)
    subst hl; subst hz
    have hnil := fun W : World => Lib.run_eql_slice_nil (P := Try.prog) W 23 49 none 0 0 0 0 Try.underlying23
    clear hs h6 h5
    go_enter Try.func34, Try.ntmps34
    go_wp2
    go_ret
    exact ⟨_, rfl, Sl.nil w, Below.refl _ w⟩
  · have hnil := fun W : World => Lib.run_eql_slice_nil (P := Try.prog) W 23 49 (some ad) a.length cap 0 0 Try.underlying23
    have hown := World.ownsRow_made (e := 49) (size := 1) (base := w.heap.size) w #[] 0 (Nat.le_refl _) (by simp) (by simp)
    have hnews := (hs.alloc (.cells #[] 49)).news
    obtain ⟨i0, hi, hz0, hz1, hz2⟩ := info_parts info32
    have HOWN := Lib.hid hown
    have HNEWS := Lib.hid hnews
    have hlm : maxLen = 9223372036854775807 := rfl
    have HLM := Lib.hid hlm
    clear hs h6 h5 hown hnews hlm
    go_enter Try.func34, Try.ntmps34
    go_wp2_with (at_builtin; refine wpList_append_own _ rfl _ _ 23 rfl w.heap.size 49 i0 (.int .u32 0) 1 4 Try.underlying23 hi hz0 hz1 hz2 rfl (by decide) _ _ _ rfl HOWN.out ad a.length cap (a.map u32) rfl ?c1 HNEWS.out ?c3 ?c4 ?c5 ?c6 ?_)
    case c1 => simp
    case c3 => exact fun u hu => one_u32 hu
    case c4 => rw [HLM.out]; omega
    case c5 => omega
    case c6 => simp
    intro v' w1 hown' hgrow _
    have hs' := Sl.of_own (l := a) hown' h0
    have HS := Lib.hid hs'
    clear hs' hown'
    go_wp2
    go_ret
    exact ⟨_, rfl, HS.out, ((Below.refl _ w).alloc (Nat.le_refl _) _).grown hgrow (by simp) (fun k hk => by simp [Value.ownBlock] at hk; omega)⟩

set_option maxRecDepth 100000 in
set_option maxHeartbeats 1000000 in
theorem own_a (w : World) (v : Value) (x : F) (h : IsFA w v x) : Calls Try.prog 11 #[v] w (RetF1 w (cut34 x)) := by
  have HX := h
  obtain ⟨va, vb, rfl, h1, h2⟩ := h
  obtain ⟨p, cp, rfl, hp1, hp2⟩ := h1.shape
  obtain ⟨q, cq, rfl, hq1, hq2⟩ := h2.shape
  obtain ⟨W0, hW, bx, br, hsz, hb0⟩ := start2 w #[.bool x.neg, .slice p x.num.length cp, .slice q x.den.length cq] #[.bool false, .slice none 0 0, .slice none 0 0] 25
  obtain ⟨c0, c1, c2⟩ := bx.cells3
  have H1 := Lib.hid (h1.after hb0).cut
  have H2 := Lib.hid (h2.after hb0).cut
  have L1 := Lib.hid (show (x.num.take 34).length ≤ 1000000 by simp; omega)
  have L2 := Lib.hid (show (x.den.take 34).length ≤ 1000000 by simp; omega)
  have HB0 := Lib.hid hb0
  have BR := Lib.hid br
  have mkS : Hid (∀ w', Below W0.heap.size W0 w' → w'.cell? ⟨w.heap.size, 0, none⟩ = some (.bool x.neg) ∧ w'.cell? ⟨w.heap.size, 1, none⟩ = some (.slice p x.num.length cp) ∧ w'.cell? ⟨w.heap.size, 2, none⟩ = some (.slice q x.den.length cq)) :=
    fun w' hb => ⟨keep_cell hb c0, keep_cell hb c1, keep_cell hb c2⟩
  have m1 : (0 : Int) ≤ min (x.num.length : Int) 34 := by omega
  have m2 : min (x.num.length : Int) 34 ≤ (cp : Int) := by omega
  have m3 : (0 : Int) ≤ min (x.den.length : Int) 34 := by omega
  have m4 : min (x.den.length : Int) 34 ≤ (cq : Int) := by omega
  clear bx br HX h1 h2 hb0 c0 c1 c2
  go_enter Try.func11, Try.ntmps11
  go_upto_region 1 with fail
  rw [← hW]
  clear hW
  go_region_held3 (fun w' => w'.cell? ⟨w.heap.size, 0, none⟩ = some (.bool x.neg) ∧ w'.cell? ⟨w.heap.size, 1, none⟩ = some (.slice p x.num.length cp) ∧ w'.cell? ⟨w.heap.size, 2, none⟩ = some (.slice q x.den.length cq))
    (first | (refine mkS.out _ ?_; (repeat (first | with_reducible exact hk2 | with_reducible exact hk1 | with_reducible exact Below.refl _ _ | with_reducible refine below_dr ?_)); done) | (with_reducible exact keep3z (by omega) (mkS.out _ hk2)))
    (first
     | (go_at_call_of 34 p; refine (clone_a _ _ _ (H1.out.after (below_dr (Below.refl _ W0))) L1.out).mono ?_; rintro e w1 ⟨v1, rfl, hv1, hb1⟩; obtain ⟨p1, cp1, rfl, _, _⟩ := hv1.shape; have hk1 := below_of_drew hb1)
     | (go_at_call_of 34 q; refine (clone_a _ _ _ (H2.out.after hk1) L2.out).mono ?_; rintro e w2 ⟨v2, rfl, hv2, hb2⟩; obtain ⟨p2, cp2, rfl, _, _⟩ := hv2.shape; have hk2 := hk1.trans (hb2.mono hk1.size); obtain ⟨r0, r1, r2⟩ := (BR.out.after hk2).cells3; have f0 := (BR.out.after hk2).frozen 0; have f1 := (BR.out.after hk2).frozen 1; have f2 := (BR.out.after hk2).frozen 2))
  all_goals
    (have HS1 := Lib.hid (hv1.after hb2)
     have HS2 := Lib.hid hv2
     have HK2 := Lib.hid (HB0.out.trans (hk2.mono HB0.out.size))
     have HR2 := Lib.hid (BR.out.after hk2)
     have l1 : (x.num.take 34).length = min 34 x.num.length := List.length_take
     have l2 : (x.den.take 34).length = min 34 x.den.length := List.length_take
     have L3 := Lib.hid l1
     have L4 := Lib.hid l2
     clear hk1 hk2 hb1 hb2 hv1 hv2 mkS l1 l2
     go_wp2_with fail
     obtain ⟨e0, e1, e2⟩ := (end_box HR2.out (y0 := .bool x.neg) (y1 := .slice p1 (min 34 x.num.length) cp1) (y2 := .slice p2 (min 34 x.den.length) cp2)).cells3
     refine bodyPost_ret (v := .agg #[.bool x.neg, .slice p1 (min 34 x.num.length) cp1, .slice p2 (min 34 x.den.length) cp2]) (by simp [results, Try.results11, go_sem, e0, e1, e2]) rfl ?_
     refine retF1_end (x := cut34 x) HK2.out HR2.out (fun _ h => by cases h) (fun _ h => by cases h) (Nat.le_succ _) ?_ ?_
     · rw [← L3.out]; exact HS1.out
     · rw [← L4.out]; exact HS2.out)

section
open Go.ChangeShapes
theorem cells_u32 : Try.prog.cellsOf 49 = 1 := by kernel_rfl
theorem cells_ratio : Try.prog.cellsOf 25 = 3 := by kernel_rfl
theorem u32_wf {n : Int} (h : (Lit.int .u32 n).wf = true) : 0 ≤ n ∧ n < 4294967296 := by
  have h1 : IntKind.u32.min = 0 := rfl
  have h2 : IntKind.u32.max = 4294967295 := rfl
  simp [Lit.wf, h1, h2] at h
  omega
theorem slA_of_arg {H : Type} {enc : TypeId × Value → H} {W : World} {n : Nat} {v : Value} {y : DataW H × List MemPlace} (h : DataW.trod enc Try.prog W 0 (fun _ => true) true n 23 [v] = some y) : ∃ l, SlA W v l := by
  rcases open_ints Try.underlying23 Try.underlying49 cells_u32 h with ⟨hc, _⟩ | ⟨a, len, cap, zs, hc, _, hl, hm, hz, _, hcell, hw⟩
  · obtain rfl : v = .slice none 0 0 := by simpa using hc
    exact ⟨[], Lb.nil, none, 0, rfl, Nat.le_refl _, by omega, fun _ => rfl, fun h => absurd h (by simp)⟩
  · obtain rfl : v = .slice (some a) len cap := by simpa using hc
    simp at hz
    have hlen : ((zs.take len).map Int.toNat).length = len := by simp; omega
    refine ⟨(zs.take len).map Int.toNat, ?_, some a, cap, by rw [hlen], by rw [hlen]; exact hl, by unfold maxLen at hm; exact hm, (fun h => by cases h), fun h0 => ?_⟩
    · intro x hx
      obtain ⟨z, hz', rfl⟩ := List.mem_map.1 hx
      have := u32_wf (hw z (List.mem_of_mem_take hz'))
      omega
    · rw [hlen] at h0
      have hs : a.spot = none := by
        have := hcell 0 (by omega)
        simpa [Addr.add] using World.cell?_spot this
      obtain ⟨b, off, spot⟩ := a
      simp only at hs
      subst hs
      have hadd : ∀ j, (⟨b, off, none⟩ : Addr).add j = ⟨b, off + j, none⟩ := fun j => by unfold Addr.add; split <;> simp_all
      refine ⟨b, off, rfl, ?_, fun i hi => ?_⟩
      · have := hcell 0 (by omega)
        rw [hadd] at this
        exact World.block_lt_of_cell? _ _ this
      · rw [hlen] at hi
        have := hcell i (by omega)
        rw [hadd] at this
        rw [this, lim_get (by rw [hlen]; exact hi)]
        have hb := u32_wf (hw zs[i] (List.getElem_mem _))
        simp [List.getD, show i < zs.length by omega]
        omega
set_option maxRecDepth 100000 in
/-- An argument that is a fraction. -/
theorem open_ratio {H : Type} {enc : TypeId × Value → H} {W : World} {base : Nat} {v : Value} {d : DataW H} {p : List MemPlace} (hv : Value.okWide Try.prog W .any base 25 v) (h : DataW.Trod enc Try.prog W 0 (fun _ => true) true 25 v d p) : ∃ x, IsFA W v x := by
  obtain ⟨v0, v1, v2, y0, y1, y2, n, rfl, _, _, h0, h1, h2⟩ := Joins.open_agg3 Try.underlying25 (by kernel_rfl) cells_ratio hv h
  obtain ⟨b, hb, _⟩ := DataW.trod_bool Try.underlying4 h0
  obtain rfl : v0 = .bool b := by simpa using hb
  obtain ⟨l1, hl1⟩ := slA_of_arg h1
  obtain ⟨l2, hl2⟩ := slA_of_arg h2
  exact ⟨⟨b, l1, l2⟩, v1, v2, rfl, hl1, hl2⟩
end
end Go.Proofs.Ytppehiajocgiiaa

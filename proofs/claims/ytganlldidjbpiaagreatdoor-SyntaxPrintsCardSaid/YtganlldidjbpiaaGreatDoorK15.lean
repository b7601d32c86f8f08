/- Walks of package lexis: Tokens.
   Lexis, plain: joined texts, piece by piece. No program in it. -/
import Derived.Test.YtganlldidjbpiaaGreatDoorK14
import Derived.Test.YtganlldidjbpiaaGreatDoorK03
set_option linter.unusedVariables false
namespace Go.Proofs.YtganlldidjbpiaaGreatDoor
open Go.RowKit Go.Shelf
attribute [local go_sem] Oper.semAt_some wide_fn

/-- A token as cells, for the assignment of a round. -/
def AsT (its : List (Tok × Nat)) (F : Nat → List UInt8 → Int → Int → Nat → World → Act) (r : Nat) (_ : Array Value) (a1 : Act) (W w1 : World) : Prop :=
  ∃ (k : Nat) (x : List UInt8) (n o : Int) (e : Nat), its[r]? = some (⟨k, x, n, o⟩, e) ∧ w1 = W.alloc (.cells #[.int .u8 (k : Int), .string (bs x), .int .i64 n, .int .i64 o] 37) ∧ a1 = F k x n o e W
theorem AsT.mk {its : List (Tok × Nat)} {F : Nat → List UInt8 → Int → Int → Nat → World → Act} {r k e : Nat} {x : List UInt8} {n o : Int} {args : Array Value} {W : World} (h : its[r]? = some (⟨k, x, n, o⟩, e)) :
    AsT its F r args (F k x n o e W) W (W.alloc (.cells #[.int .u8 (k : Int), .string (bs x), .int .i64 n, .int .i64 o] 37)) := ⟨k, x, n, o, e, h, rfl, rfl⟩
/-- So many rounds are over: their tokens are collected, and there was no error. -/
def TJ (its : List (Tok × Nat)) (W1 : World) (O r : Nat) (W : World) : Prop := OutK W1 O r ((its.take r).map Prod.fst) W ∧ ∀ i x, i < r → its[i]? = some x → x.2 = 0
theorem items_tokok (s : List UInt8) (hs : s.length ≤ 4096) : ∀ o l, o + l.length ≤ 4096 → ∀ x ∈ items o l, TokOk x.1 := by
  refine items_ind ?_ ?_ ?_
  · intro o l h _ x hx; rw [items_nil h] at hx; simp at hx
  · intro o l c m h he ho x hx
    rw [items_bad h he] at hx
    obtain rfl := List.mem_singleton.1 hx
    have := idleN_le l
    rw [fst1_bad he]
    exact ⟨by simp [Tok.at_], ⟨by simp [Tok.at_], by simp [Tok.at_]⟩, ⟨by simp only [Tok.at_]; omega, by simp only [Tok.at_]; omega⟩, by simp [Tok.at_]⟩
  · intro o l c m h he ih ho x hx
    have h1 := idleN_add l
    rw [h] at h1
    obtain ⟨a1, a2, _⟩ := fst1_text he
    rw [items_cons h he] at hx
    rcases List.mem_cons.1 hx with rfl | hx
    · have h2 := fst1_kind (c :: m)
      have h3 := fst1_num (c :: m)
      exact ⟨by show (fst1 (c :: m)).1.kind < 256; omega, ⟨by show _ ≤ (fst1 (c :: m)).1.num; omega, by show (fst1 (c :: m)).1.num ≤ _; omega⟩, ⟨by simp only [Tok.at_]; omega, by simp only [Tok.at_]; omega⟩, by show (fst1 (c :: m)).1.text.length ≤ _; omega⟩
    · exact ih (by rw [List.length_drop]; omega) x hx
theorem items_len : ∀ o l, (items o l).length ≤ l.length := by
  refine items_ind ?_ ?_ ?_
  · intro o l h; rw [items_nil h]; simp
  · intro o l c m h he
    have := skp_len false l
    rw [h] at this
    rw [items_bad h he]; simp at this ⊢; omega
  · intro o l c m h he ih
    have := skp_len false l
    rw [h] at this
    obtain ⟨a1, a2, _⟩ := fst1_text he
    rw [List.length_drop] at ih
    rw [items_cons h he, List.length_cons]; omega
theorem fin_at {its : List (Tok × Nat)} {r : Nat} {t : Tok} {e : Nat} (h : its[r]? = some (t, e)) (he : e ≠ 0) (hp : ∀ i x, i < r → its[i]? = some x → x.2 = 0) : fin its [] = ([], t.off, e) := by
  have hlt : r < its.length := (List.getElem?_eq_some_iff.1 h).1
  have hsp : its = its.take r ++ (t, e) :: its.drop (r + 1) := by
    have hg : its[r] = (t, e) := by
      have := List.getElem?_eq_getElem hlt
      rw [h] at this
      injection this with this
      exact this.symm
    rw [← hg, ← List.drop_eq_getElem_cons hlt, List.take_append_drop]
  rw [hsp, fin_app _ _ _ (fun x hx => by
    obtain ⟨i, hi, rfl⟩ := List.getElem_of_mem hx
    rw [List.length_take] at hi
    exact hp i _ (by omega) (by rw [List.getElem_take, List.getElem?_eq_getElem (by omega)])), fin, if_neg he]
section
variable {w : World} {a b c : Array Value} {ta tb tc : TypeId} {W : World}
theorem threeA (h : W = ((w.alloc (.cells a ta)).alloc (.cells b tb)).alloc (.cells c tc)) : Box W w.heap.size a ta := h ▸ ((Box.new w a ta).alloc _).alloc _
theorem threeB (h : W = ((w.alloc (.cells a ta)).alloc (.cells b tb)).alloc (.cells c tc)) : Box W (w.heap.size + 1) b tb := by
  have := (Box.new (w.alloc (.cells a ta)) b tb).alloc (.cells c tc)
  rw [World.size_alloc] at this
  exact h ▸ this
theorem threeC (h : W = ((w.alloc (.cells a ta)).alloc (.cells b tb)).alloc (.cells c tc)) : Box W (w.heap.size + 1 + 1) c tc := by
  have := Box.new ((w.alloc (.cells a ta)).alloc (.cells b tb)) c tc
  rw [World.size_alloc, World.size_alloc] at this
  exact h ▸ this
end
theorem infoT_parts : ∃ i, Tryz.prog.info? 37 = some i ∧ i.zero = some (.agg #[.int .u8 0, .string ⟨#[]⟩, .int .i64 0, .int .i64 0]) ∧ i.size = 4 ∧ i.bytes = 40 := by
  have h := infoT
  cases hi : Tryz.prog.info? 37 with
  | none => rw [hi] at h; cases h
  | some i =>
    rw [hi] at h
    simp only [Option.map_some, Option.some.injEq, Prod.mk.injEq] at h
    exact ⟨i, rfl, h.1, h.2.1, h.2.2⟩
section
variable {its : List (Tok × Nat)} {W1 W W' : World} {O r : Nat}
theorem TJ.size (h : TJ its W1 O r W) : W1.heap.size ≤ W.heap.size := by
  obtain ⟨⟨_, _, _, _, _, hg⟩, _⟩ := h
  exact hg.size
theorem TJ.grown (h : TJ its W1 O r W) : W1.grownBy W (some O) := by
  obtain ⟨⟨_, _, _, _, _, hg⟩, _⟩ := h
  exact hg
theorem TJ.box (h : TJ its W1 O r W) : ∃ p n c, Box W O #[.slice p n c] 32 ∧ ∀ a, p = some a → a.block < W.heap.size := by
  obtain ⟨⟨p, n, c, bo, hown, _⟩, _⟩ := h
  refine ⟨p, n, c, bo, ?_⟩
  rintro a rfl
  rcases hown.2 with ⟨e, _⟩ | ⟨g, cap, cur, e, _, hg, _⟩
  · cases e
  · injection e with e _ _
    injection e with e
    subst e
    exact (Array.getElem?_eq_some_iff.1 hg).1
theorem notOut_keep {v : Value} {b : Nat} {t : TypeId} (bo : Box W O #[v] t) (bo' : Box W' O #[v] t) (h : NotOut O W b) : NotOut O W' b :=
  ⟨h.1, fun p n c hc => h.2 p n c (by rw [bo.cell 0]; rw [bo'.cell 0] at hc; exact hc)⟩
theorem TJ.notOut_after (h : TJ its W1 O r W) (hb : Below W.heap.size W W') {b : Nat} (hn : NotOut O W b) : NotOut O W' b := by
  obtain ⟨p, n, c, bo, _⟩ := h.box
  exact notOut_keep bo (bo.after hb) hn
theorem TJ.notOut_soft (h : TJ its W1 O r W) {l : Nat} (hs : Soft W l) (hg : W.grownBy W' (some l)) {b : Nat} (hn : NotOut O W b) : NotOut O W' b := by
  obtain ⟨p, n, c, bo, _⟩ := h.box
  exact notOut_keep bo (bo.soft hs hg) hn
theorem TJ.notOut_new (h : TJ its W1 O r W) (hb : Below W.heap.size W W') : NotOut O W' W.heap.size := by
  obtain ⟨p, n, c, bo, hp⟩ := h.box
  refine ⟨fun e => by have := bo.lt; omega, fun p' n' c' hc => ?_⟩
  rw [(bo.after hb).cell 0] at hc
  simp at hc
  have := hp p' hc.1
  omega
theorem TJ.next {k : Nat} {x : List UInt8} {n o : Int} (hit : its[r]? = some (⟨k, x, n, o⟩, 0)) (hp : ∀ i x, i < r → its[i]? = some x → x.2 = 0) (h : OutK W1 O (r + 1) ((its.take r).map Prod.fst ++ [⟨k, x, n, o⟩]) W) : TJ its W1 O (r + 1) W := by
  have hlt : r < its.length := (List.getElem?_eq_some_iff.1 hit).1
  have hg : its[r] = (⟨k, x, n, o⟩, 0) := by
    have := List.getElem?_eq_getElem hlt
    rw [hit] at this
    injection this with this
    exact this.symm
  refine ⟨?_, ?_⟩
  · have e : (its.take (r + 1)).map Prod.fst = (its.take r).map Prod.fst ++ [⟨k, x, n, o⟩] := by
      rw [List.take_succ_eq_append_getElem hlt, List.map_append, hg]; rfl
    rw [e]; exact h
  · intro i y hi hy
    rcases Nat.lt_or_ge i r with h1 | h1
    · exact hp i y h1 hy
    · obtain rfl : i = r := by omega
      rw [hit] at hy
      injection hy with hy
      rw [← hy]
end
theorem push_keepF {O : Nat} {w3 w5 : World} {p : Option Addr} {n c : Nat} {cs : Array Value} {t : TypeId} (hbo : Box w3 O #[.slice p n c] 32) (hgr : (w3.alloc (.cells cs t)).grownBy w5 (Value.slice p n c).ownBlock) (v' : Value) : KeepF (NotOut O) w3 (w5.setCell ⟨O, 0, none⟩ v') := by
  intro b cs' t' hb hn
  have hne : some b ≠ (Value.slice p n c).ownBlock := by
    cases p with
    | none => simp [Value.ownBlock]
    | some a =>
      intro e
      simp [Value.ownBlock] at e
      exact hn.2 a n c (hbo.cell 0) e.symm
  exact ((hb.alloc _).grown hgr hne).far (p := ⟨O, 0, none⟩) hn.1 _
/- WALK -/
set_option maxRecDepth 100000 in
set_option maxHeartbeats 4000000 in
theorem tokens_ok (w : World) (s : List UInt8) (hs : s.length ≤ 4096) : Calls Tryz.prog 22 #[.string (bs s)] w (RetK w (fin (items 0 s) [])) := by
  obtain ⟨W0, hW, bD, bA, bE, hsz, hb0⟩ : ∃ W0, W0 = ((w.alloc (.cells #[.slice none 0 0] 32)).alloc (.cells #[.int .i64 0] 3)).alloc (.cells #[.int .i64 0] 23) ∧
      Box W0 w.heap.size #[.slice none 0 0] 32 ∧ Box W0 (w.heap.size + 1) #[.int .i64 0] 3 ∧ Box W0 (w.heap.size + 1 + 1) #[.int .i64 0] 23 ∧ W0.heap.size = w.heap.size + 3 ∧ Below w.heap.size w W0 :=
    ⟨_, rfl, threeA rfl, threeB rfl, threeC rfl, by simp, ((((Below.refl _ w).alloc (Nat.le_refl _) _).alloc (by simp) _).alloc (by simp; omega) _)⟩
  have BD := Lib.hid bD
  have BA := Lib.hid bA
  have BE := Lib.hid bE
  have HB0 := Lib.hid hb0
  have hsl : (bs s).size = s.length := bs_size s
  obtain ⟨its, hits⟩ : ∃ its, items 0 s = its := ⟨_, rfl⟩
  have hil : its.length ≤ 4096 := by have := items_len 0 s; rw [hits] at this; omega
  have HOKT : Hid (∀ x ∈ its, TokOk x.1) := by have := items_tokok s hs 0 s (by omega); rw [hits] at this; exact this
  have HITS := Lib.hid hits
  rw [hits]
  have hsz1 : W0.heap.size ≤ w.heap.size + 3 := by omega
  have hsz2 : w.heap.size + 3 ≤ W0.heap.size := by omega
  clear bD bA bE hb0 hits hsz
  refine callsIn_wide (n := 6).1 (callsIn_of_wp_marks Tryz.func22 rfl trivial (wpIn_wide.2 ?_) rfl)
  simp only [Tryz.ntmps22, List.size_toArray, List.length_cons, List.length_nil, Nat.reduceAdd, Nat.reduceSub, Array.replicate_succ, Array.replicate_zero, List.push_toArray, List.append_toArray, List.nil_append, List.cons_append]
  go_upto_region 1 with fail
  rw [← hW]
  clear hW
  go_upto_region 4 with fail
  obtain ⟨w2, hw2⟩ : ∃ w2, w2 = W0.alloc (.cells #[.slice none 0 0] 32) := ⟨_, rfl⟩
  have hb2 : Below W0.heap.size W0 w2 := hw2 ▸ held_alloc (Below.refl _ W0)
  have bo : Box w2 W0.heap.size #[.slice none 0 0] 32 := hw2 ▸ Box.new W0 _ _
  have hlo := bo.lt
  have BO := Lib.hid bo
  have BD2 := Lib.hid (BD.out.after hb2)
  have BA2 := Lib.hid (BA.out.after hb2)
  have BE2 := Lib.hid (BE.out.after hb2)
  have HB2 := Lib.hid (HB0.out.trans (hb2.mono HB0.out.size))
  rw [← hw2]
  clear hw2 hb2 bo BD BA BE HB0
  go_wp2_with fail
  refine (all_t (bs s) _).mono ?_
  rintro e w' ⟨rfl, rfl⟩
  obtain ⟨W1, hW1⟩ : ∃ W1, W1 = w2.alloc (.cells #[.string (bs s)] 9) := ⟨_, rfl⟩
  have hb3 : Below w2.heap.size w2 W1 := hW1 ▸ held_alloc (Below.refl _ w2)
  have bx : Box W1 w2.heap.size #[.string (bs s)] 9 := hW1 ▸ Box.new w2 _ _
  have BX := Lib.hid bx
  have BO3 := Lib.hid (BO.out.after hb3)
  have BD3 := Lib.hid (BD2.out.after hb3)
  have BA3 := Lib.hid (BA2.out.after hb3)
  have BE3 := Lib.hid (BE2.out.after hb3)
  have HB3 := Lib.hid (HB2.out.trans (hb3.mono HB2.out.size))
  have hlt2 := bx.lt
  have hne : w2.heap.size ≠ W0.heap.size := by omega
  have hO1 : W0.heap.size < W1.heap.size := by omega
  rw [← hW1]
  clear hW1 hb3 bx BD2 BA2 BE2 HB2 BO
  go_wp2_with fail
  refine' (wpIn_wide (n := 6)).1 (wpIn_range_keep (n := 6) rfl (by omega) (gf := 72) (lb := #[.pointer (some ⟨w2.heap.size, 0, none⟩)]) rfl trivial (enters_of Tryz.func72 (by kernel_rfl) rfl) (NotOut W0.heap.size) its.length (TJ its W1 W0.heap.size) (YldV its) (fun _ => ResK w w.heap.size (fin its []))
    (by rintro r args W ⟨t, e, _, rfl⟩; rfl) (fun r W h => h.size) (fun r W W' h hb => ⟨h.1.after hb, h.2⟩) (fun r W W' l hl h hs hg => ⟨h.1.soft hs hl hg, h.2⟩)
    (fun r W W' b h hb hn => h.notOut_after hb hn) (fun r W W' l b h hs hg hn => h.notOut_soft hs hg hn)
    ⟨⟨none, 0, 0, BO3.out, ⟨by simp [cellsT], .inl ⟨rfl, rfl⟩⟩, World.grownBy.refl _ _⟩, fun i x h => by omega⟩
    (fun l W2 J' Y hJJ hJb hJ0 hYY => callsIn_wide.2 (all1_t l (6 - 1 - 1) W2 w2.heap.size s hs its HITS.out (NotOut W0.heap.size) J' Y (fun r W h => BX.out.grown (hJJ r W h).grown (by intro e; injection e with e; exact hne e)) (fun r W W' h hb => (hJJ r W h).notOut_new hb) hJb hJ0 hYY))
    (AsT its _) ?hA ?assign ?body ?done ?stop)
  case hA =>
    rintro r args a1 W w1 ⟨k, x, n, o, e, _, rfl, _⟩
    exact held_alloc (Below.refl _ W)
  case assign =>
    intro l r args W K hr hj hv hK
    obtain ⟨⟨k, x, n, o⟩, e, hit, rfl⟩ := hv
    have HIT := Lib.hid hit
    simp only [aggT]
    clear hit hj
    gi_wp2
    exact AsT.mk (W := W) HIT.out
  case body =>
    rintro l r args W wA w3 a1 hr hj hv ⟨k, x, n, o, e, hit, rfl, rfl⟩ hj2 hsf hlW hgr
    obtain ⟨⟨po, no, co, bo3, hown, hgO⟩, hprev⟩ := hj2
    have hszW : W1.heap.size ≤ W.heap.size := hj.size
    have bv := (Box.new W #[.int .u8 (k : Int), .string (bs x), .int .i64 n, .int .i64 o] 37).soft hsf hgr
    have hltv := bv.lt
    have hszO := hgO.size
    have hlo4 := bo3.lt
    obtain ⟨v0, v1, v2, v3⟩ := bv.cells4
    have o0 : w3.cell? ⟨W0.heap.size, 0, none⟩ = some (.slice po no co) := bo3.cell 0
    obtain ⟨ts, hts⟩ : ∃ ts, (its.take r).map Prod.fst = ts := ⟨_, rfl⟩
    rw [hts] at hown
    have HTS := Lib.hid hts
    have BO4 := Lib.hid bo3
    have HOWN := Lib.hid hown
    have HGO := Lib.hid hgO
    have HPREV := Lib.hid hprev
    have HIT := Lib.hid hit
    clear hts hj hv hit bv bo3 hown hgO hprev hsf hgr
    by_cases he : e = 0
    · subst he
      obtain ⟨i0, hi, hz0, hz1, hz2⟩ := infoT_parts
      have hlm : maxLen = 9223372036854775807 := rfl
      have HLM := Lib.hid hlm
      clear hlm
      gi_wp2_with (gi_at_builtin; refine wpListIn_append_own _ rfl _ _ 32 rfl W1.heap.size 37 i0 (.agg #[.int .u8 0, .string ⟨#[]⟩, .int .i64 0, .int .i64 0]) 4 40 Tryz.underlying32 hi hz0 hz1 hz2 rfl (by decide) _ _ _ rfl (HOWN.out.alloc _) ⟨w3.heap.size, 0, none⟩ 1 1 [.int .u8 (k : Int), .string (bs x), .int .i64 n, .int .i64 o] rfl rfl cell_four (by intro u hu; simp at hu; rcases hu with rfl | rfl | rfl | rfl <;> rfl) (by rw [HLM.out]; omega) (by omega) (by simp; omega) ?_)
      intro v5 w5 hown5 hgr5 _
      obtain ⟨b5, out5, ks5⟩ := OutK.push (x := ⟨k, x, n, o⟩) hO1 BO4.out HOWN.out HGO.out hown5 hgr5
      have kf5 := push_keepF BO4.out hgr5 v5
      obtain ⟨p5, c5, rfl⟩ := ownsRow_shape hown5
      have x0 : w5.cell? ⟨W0.heap.size, 0, none⟩ = some (.slice po no co) := b5.cell 0
      have x1 := b5.frozen 0
      have HTJ : Hid (TJ its W1 W0.heap.size (r + 1) (w5.setCell ⟨W0.heap.size, 0, none⟩ (.slice p5 (r + 1) c5))) := TJ.next HIT.out HPREV.out (by rw [HTS.out]; exact out5)
      have HKS := Lib.hid ks5
      have HKF := Lib.hid kf5
      clear hown5 hgr5 b5 out5 ks5 kf5 o0
      gi_wp2
      exact ⟨HTJ.out, HKS.out, HKF.out⟩
    · have he' : ((e : Int) != 0) = true := by simp; omega
      have HFIN : Hid (fin its [] = ([], o, e)) := fin_at HIT.out he HPREV.out
      clear he
      gi_wp2
      obtain ⟨w4, hw4⟩ : ∃ w4, w4 = w3.drew := ⟨_, rfl⟩
      have hb4 : Below w3.heap.size w3 w4 := hw4 ▸ below_dr (Below.refl _ w3)
      refine wpIn_region_any (by kernel_rfl) ?_
      change wpAnyIn _ _ _ _ _ _ _ _ _ (World.drew _)
      rw [← hw4]
      clear hw4
      have v3 := keep_cell hb4 v3
      have bd := (BD3.out.grown HGO.out (by intro e; injection e with e; omega)).after hb4
      have ba := (BA3.out.grown HGO.out (by intro e; injection e with e; omega)).after hb4
      have be := (BE3.out.grown HGO.out (by intro e; injection e with e; omega)).after hb4
      have r0 : w4.cell? ⟨w.heap.size, 0, none⟩ = some (.slice none 0 0) := bd.cell 0
      have r1 : w4.cell? ⟨w.heap.size + 1, 0, none⟩ = some (.int .i64 0) := ba.cell 0
      have r2 : w4.cell? ⟨w.heap.size + 1 + 1, 0, none⟩ = some (.int .i64 0) := be.cell 0
      have f0 := bd.frozen 0
      have f1 := ba.frozen 0
      have f2 := be.frozen 0
      have HST : Hid (ResK w w.heap.size ([], o, e) (((w4.setCell ⟨w.heap.size, 0, none⟩ (.slice none 0 0)).setCell ⟨w.heap.size + 1, 0, none⟩ (.int .i64 o)).setCell ⟨w.heap.size + 1 + 1, 0, none⟩ (.int .i64 (e : Int)))) :=
        resK_store (B := w.heap.size + 3) (n := 0) bd ba be ⟨by simp [cellsT], .inl ⟨rfl, rfl⟩⟩ (by simp) (by omega) (Nat.le_refl _) (((HB3.out.grown HGO.out HB3.out.size (fun g e => by injection e with e; omega))).trans (hb4.mono (by have := HB3.out.size; omega))) o e
      have HKP : Hid (KeepSoft W1.heap.size w3 (((w4.setCell ⟨w.heap.size, 0, none⟩ (.slice none 0 0)).setCell ⟨w.heap.size + 1, 0, none⟩ (.int .i64 o)).setCell ⟨w.heap.size + 1 + 1, 0, none⟩ (.int .i64 (e : Int)))) :=
        resK_keep bd ba be (KeepSoft.of_below hb4) _ _ _
      have hlt5 := be.lt
      clear hb4 bd ba be v0 v1 v2 o0
      refine wpAnyIn_ready (rs := [0, 2, 3]) (by kernel_rfl) (by simp) ?_
      refine AllReadyIn.cons rfl (fun K hK => ?_) ?_
      · go_simp
        refine hK _ _ ?_
        clear hK K
        refine wpAnyIn_ready (rs := [1, 2, 3]) (by kernel_rfl) (by simp) ?_
        refine AllReadyIn.cons rfl (fun K hK => ?_) ?_
        · go_simp
          refine hK _ _ ?_
          clear hK K
          refine wpAnyIn_ready (rs := [2, 3]) (by kernel_rfl) (by simp) ?_
          refine AllReadyIn.cons rfl (fun K hK => ?_) ?_
          · go_simp
            refine hK _ _ ?_
            clear hK K
            refine wpAnyIn_ready (rs := [3]) (by kernel_rfl) (by simp) ?_
            refine AllReadyIn.cons rfl (fun K hK => ?_) ?_
            · go_simp
              refine hK _ _ ?_
              clear hK K
              refine wpAnyIn_ready (rs := [4]) (by kernel_rfl) (by simp) ?_
              refine AllReadyIn.cons rfl (fun K hK => ?_) ?_
              · go_simp
                refine hK _ _ ?_
                clear hK K
                refine wpAnyIn_ready (rs := [5]) (by kernel_rfl) (by simp) ?_
                refine AllReadyIn.cons rfl (fun K hK => ?_) ?_
                · go_simp
                  refine hK _ _ ?_
                  clear hK K
                  refine wpAnyIn_done (by kernel_rfl) ?_ _
                  gi_wp2
                  refine ⟨?_, HKP.out⟩
                  rw [HFIN.out]
                  exact HST.out
                exact AllReadyIn.nil
              exact AllReadyIn.nil
            exact AllReadyIn.nil
          refine AllReadyIn.cons rfl (fun K hK => ?_) ?_
          · go_simp
            refine hK _ _ ?_
            clear hK K
            refine wpAnyIn_ready (rs := [2, 4]) (by kernel_rfl) (by simp) ?_
            refine AllReadyIn.cons rfl (fun K hK => ?_) ?_
            · go_simp
              refine hK _ _ ?_
              clear hK K
              refine wpAnyIn_ready (rs := [4]) (by kernel_rfl) (by simp) ?_
              refine AllReadyIn.cons rfl (fun K hK => ?_) ?_
              · go_simp
                refine hK _ _ ?_
                clear hK K
                refine wpAnyIn_ready (rs := [5]) (by kernel_rfl) (by simp) ?_
                refine AllReadyIn.cons rfl (fun K hK => ?_) ?_
                · go_simp
                  refine hK _ _ ?_
                  clear hK K
                  refine wpAnyIn_done (by kernel_rfl) ?_ _
                  gi_wp2
                  refine ⟨?_, HKP.out⟩
                  rw [HFIN.out]
                  exact HST.out
                exact AllReadyIn.nil
              exact AllReadyIn.nil
            refine AllReadyIn.cons rfl (fun K hK => ?_) ?_
            · go_simp
              refine hK _ _ ?_
              clear hK K
              refine wpAnyIn_ready (rs := [2]) (by kernel_rfl) (by simp) ?_
              refine AllReadyIn.cons rfl (fun K hK => ?_) ?_
              · go_simp
                refine hK _ _ ?_
                clear hK K
                refine wpAnyIn_ready (rs := [5]) (by kernel_rfl) (by simp) ?_
                refine AllReadyIn.cons rfl (fun K hK => ?_) ?_
                · go_simp
                  refine hK _ _ ?_
                  clear hK K
                  refine wpAnyIn_done (by kernel_rfl) ?_ _
                  gi_wp2
                  refine ⟨?_, HKP.out⟩
                  rw [HFIN.out]
                  exact HST.out
                exact AllReadyIn.nil
              exact AllReadyIn.nil
            exact AllReadyIn.nil
          exact AllReadyIn.nil
        refine AllReadyIn.cons rfl (fun K hK => ?_) ?_
        · go_simp
          refine hK _ _ ?_
          clear hK K
          refine wpAnyIn_ready (rs := [1, 3]) (by kernel_rfl) (by simp) ?_
          refine AllReadyIn.cons rfl (fun K hK => ?_) ?_
          · go_simp
            refine hK _ _ ?_
            clear hK K
            refine wpAnyIn_ready (rs := [3]) (by kernel_rfl) (by simp) ?_
            refine AllReadyIn.cons rfl (fun K hK => ?_) ?_
            · go_simp
              refine hK _ _ ?_
              clear hK K
              refine wpAnyIn_ready (rs := [4]) (by kernel_rfl) (by simp) ?_
              refine AllReadyIn.cons rfl (fun K hK => ?_) ?_
              · go_simp
                refine hK _ _ ?_
                clear hK K
                refine wpAnyIn_ready (rs := [5]) (by kernel_rfl) (by simp) ?_
                refine AllReadyIn.cons rfl (fun K hK => ?_) ?_
                · go_simp
                  refine hK _ _ ?_
                  clear hK K
                  refine wpAnyIn_done (by kernel_rfl) ?_ _
                  gi_wp2
                  refine ⟨?_, HKP.out⟩
                  rw [HFIN.out]
                  exact HST.out
                exact AllReadyIn.nil
              exact AllReadyIn.nil
            exact AllReadyIn.nil
          refine AllReadyIn.cons rfl (fun K hK => ?_) ?_
          · go_simp
            refine hK _ _ ?_
            clear hK K
            refine wpAnyIn_ready (rs := [1]) (by kernel_rfl) (by simp) ?_
            refine AllReadyIn.cons rfl (fun K hK => ?_) ?_
            · go_simp
              refine hK _ _ ?_
              clear hK K
              refine wpAnyIn_ready (rs := [4]) (by kernel_rfl) (by simp) ?_
              refine AllReadyIn.cons rfl (fun K hK => ?_) ?_
              · go_simp
                refine hK _ _ ?_
                clear hK K
                refine wpAnyIn_ready (rs := [5]) (by kernel_rfl) (by simp) ?_
                refine AllReadyIn.cons rfl (fun K hK => ?_) ?_
                · go_simp
                  refine hK _ _ ?_
                  clear hK K
                  refine wpAnyIn_done (by kernel_rfl) ?_ _
                  gi_wp2
                  refine ⟨?_, HKP.out⟩
                  rw [HFIN.out]
                  exact HST.out
                exact AllReadyIn.nil
              exact AllReadyIn.nil
            exact AllReadyIn.nil
          exact AllReadyIn.nil
        refine AllReadyIn.cons rfl (fun K hK => ?_) ?_
        · go_simp
          refine hK _ _ ?_
          clear hK K
          refine wpAnyIn_ready (rs := [1, 2]) (by kernel_rfl) (by simp) ?_
          refine AllReadyIn.cons rfl (fun K hK => ?_) ?_
          · go_simp
            refine hK _ _ ?_
            clear hK K
            refine wpAnyIn_ready (rs := [2, 4]) (by kernel_rfl) (by simp) ?_
            refine AllReadyIn.cons rfl (fun K hK => ?_) ?_
            · go_simp
              refine hK _ _ ?_
              clear hK K
              refine wpAnyIn_ready (rs := [4]) (by kernel_rfl) (by simp) ?_
              refine AllReadyIn.cons rfl (fun K hK => ?_) ?_
              · go_simp
                refine hK _ _ ?_
                clear hK K
                refine wpAnyIn_ready (rs := [5]) (by kernel_rfl) (by simp) ?_
                refine AllReadyIn.cons rfl (fun K hK => ?_) ?_
                · go_simp
                  refine hK _ _ ?_
                  clear hK K
                  refine wpAnyIn_done (by kernel_rfl) ?_ _
                  gi_wp2
                  refine ⟨?_, HKP.out⟩
                  rw [HFIN.out]
                  exact HST.out
                exact AllReadyIn.nil
              exact AllReadyIn.nil
            refine AllReadyIn.cons rfl (fun K hK => ?_) ?_
            · go_simp
              refine hK _ _ ?_
              clear hK K
              refine wpAnyIn_ready (rs := [2]) (by kernel_rfl) (by simp) ?_
              refine AllReadyIn.cons rfl (fun K hK => ?_) ?_
              · go_simp
                refine hK _ _ ?_
                clear hK K
                refine wpAnyIn_ready (rs := [5]) (by kernel_rfl) (by simp) ?_
                refine AllReadyIn.cons rfl (fun K hK => ?_) ?_
                · go_simp
                  refine hK _ _ ?_
                  clear hK K
                  refine wpAnyIn_done (by kernel_rfl) ?_ _
                  gi_wp2
                  refine ⟨?_, HKP.out⟩
                  rw [HFIN.out]
                  exact HST.out
                exact AllReadyIn.nil
              exact AllReadyIn.nil
            exact AllReadyIn.nil
          refine AllReadyIn.cons rfl (fun K hK => ?_) ?_
          · go_simp
            refine hK _ _ ?_
            clear hK K
            refine wpAnyIn_ready (rs := [1]) (by kernel_rfl) (by simp) ?_
            refine AllReadyIn.cons rfl (fun K hK => ?_) ?_
            · go_simp
              refine hK _ _ ?_
              clear hK K
              refine wpAnyIn_ready (rs := [4]) (by kernel_rfl) (by simp) ?_
              refine AllReadyIn.cons rfl (fun K hK => ?_) ?_
              · go_simp
                refine hK _ _ ?_
                clear hK K
                refine wpAnyIn_ready (rs := [5]) (by kernel_rfl) (by simp) ?_
                refine AllReadyIn.cons rfl (fun K hK => ?_) ?_
                · go_simp
                  refine hK _ _ ?_
                  clear hK K
                  refine wpAnyIn_done (by kernel_rfl) ?_ _
                  gi_wp2
                  refine ⟨?_, HKP.out⟩
                  rw [HFIN.out]
                  exact HST.out
                exact AllReadyIn.nil
              exact AllReadyIn.nil
            exact AllReadyIn.nil
          exact AllReadyIn.nil
        exact AllReadyIn.nil
      refine AllReadyIn.cons rfl (fun K hK => ?_) ?_
      · go_simp
        refine hK _ _ ?_
        clear hK K
        refine wpAnyIn_ready (rs := [0, 3]) (by kernel_rfl) (by simp) ?_
        refine AllReadyIn.cons rfl (fun K hK => ?_) ?_
        · go_simp
          refine hK _ _ ?_
          clear hK K
          refine wpAnyIn_ready (rs := [1, 3]) (by kernel_rfl) (by simp) ?_
          refine AllReadyIn.cons rfl (fun K hK => ?_) ?_
          · go_simp
            refine hK _ _ ?_
            clear hK K
            refine wpAnyIn_ready (rs := [3]) (by kernel_rfl) (by simp) ?_
            refine AllReadyIn.cons rfl (fun K hK => ?_) ?_
            · go_simp
              refine hK _ _ ?_
              clear hK K
              refine wpAnyIn_ready (rs := [4]) (by kernel_rfl) (by simp) ?_
              refine AllReadyIn.cons rfl (fun K hK => ?_) ?_
              · go_simp
                refine hK _ _ ?_
                clear hK K
                refine wpAnyIn_ready (rs := [5]) (by kernel_rfl) (by simp) ?_
                refine AllReadyIn.cons rfl (fun K hK => ?_) ?_
                · go_simp
                  refine hK _ _ ?_
                  clear hK K
                  refine wpAnyIn_done (by kernel_rfl) ?_ _
                  gi_wp2
                  refine ⟨?_, HKP.out⟩
                  rw [HFIN.out]
                  exact HST.out
                exact AllReadyIn.nil
              exact AllReadyIn.nil
            exact AllReadyIn.nil
          refine AllReadyIn.cons rfl (fun K hK => ?_) ?_
          · go_simp
            refine hK _ _ ?_
            clear hK K
            refine wpAnyIn_ready (rs := [1]) (by kernel_rfl) (by simp) ?_
            refine AllReadyIn.cons rfl (fun K hK => ?_) ?_
            · go_simp
              refine hK _ _ ?_
              clear hK K
              refine wpAnyIn_ready (rs := [4]) (by kernel_rfl) (by simp) ?_
              refine AllReadyIn.cons rfl (fun K hK => ?_) ?_
              · go_simp
                refine hK _ _ ?_
                clear hK K
                refine wpAnyIn_ready (rs := [5]) (by kernel_rfl) (by simp) ?_
                refine AllReadyIn.cons rfl (fun K hK => ?_) ?_
                · go_simp
                  refine hK _ _ ?_
                  clear hK K
                  refine wpAnyIn_done (by kernel_rfl) ?_ _
                  gi_wp2
                  refine ⟨?_, HKP.out⟩
                  rw [HFIN.out]
                  exact HST.out
                exact AllReadyIn.nil
              exact AllReadyIn.nil
            exact AllReadyIn.nil
          exact AllReadyIn.nil
        refine AllReadyIn.cons rfl (fun K hK => ?_) ?_
        · go_simp
          refine hK _ _ ?_
          clear hK K
          refine wpAnyIn_ready (rs := [0]) (by kernel_rfl) (by simp) ?_
          refine AllReadyIn.cons rfl (fun K hK => ?_) ?_
          · go_simp
            refine hK _ _ ?_
            clear hK K
            refine wpAnyIn_ready (rs := [1]) (by kernel_rfl) (by simp) ?_
            refine AllReadyIn.cons rfl (fun K hK => ?_) ?_
            · go_simp
              refine hK _ _ ?_
              clear hK K
              refine wpAnyIn_ready (rs := [4]) (by kernel_rfl) (by simp) ?_
              refine AllReadyIn.cons rfl (fun K hK => ?_) ?_
              · go_simp
                refine hK _ _ ?_
                clear hK K
                refine wpAnyIn_ready (rs := [5]) (by kernel_rfl) (by simp) ?_
                refine AllReadyIn.cons rfl (fun K hK => ?_) ?_
                · go_simp
                  refine hK _ _ ?_
                  clear hK K
                  refine wpAnyIn_done (by kernel_rfl) ?_ _
                  gi_wp2
                  refine ⟨?_, HKP.out⟩
                  rw [HFIN.out]
                  exact HST.out
                exact AllReadyIn.nil
              exact AllReadyIn.nil
            exact AllReadyIn.nil
          exact AllReadyIn.nil
        exact AllReadyIn.nil
      refine AllReadyIn.cons rfl (fun K hK => ?_) ?_
      · go_simp
        refine hK _ _ ?_
        clear hK K
        refine wpAnyIn_ready (rs := [0, 2]) (by kernel_rfl) (by simp) ?_
        refine AllReadyIn.cons rfl (fun K hK => ?_) ?_
        · go_simp
          refine hK _ _ ?_
          clear hK K
          refine wpAnyIn_ready (rs := [1, 2]) (by kernel_rfl) (by simp) ?_
          refine AllReadyIn.cons rfl (fun K hK => ?_) ?_
          · go_simp
            refine hK _ _ ?_
            clear hK K
            refine wpAnyIn_ready (rs := [2, 4]) (by kernel_rfl) (by simp) ?_
            refine AllReadyIn.cons rfl (fun K hK => ?_) ?_
            · go_simp
              refine hK _ _ ?_
              clear hK K
              refine wpAnyIn_ready (rs := [4]) (by kernel_rfl) (by simp) ?_
              refine AllReadyIn.cons rfl (fun K hK => ?_) ?_
              · go_simp
                refine hK _ _ ?_
                clear hK K
                refine wpAnyIn_ready (rs := [5]) (by kernel_rfl) (by simp) ?_
                refine AllReadyIn.cons rfl (fun K hK => ?_) ?_
                · go_simp
                  refine hK _ _ ?_
                  clear hK K
                  refine wpAnyIn_done (by kernel_rfl) ?_ _
                  gi_wp2
                  refine ⟨?_, HKP.out⟩
                  rw [HFIN.out]
                  exact HST.out
                exact AllReadyIn.nil
              exact AllReadyIn.nil
            refine AllReadyIn.cons rfl (fun K hK => ?_) ?_
            · go_simp
              refine hK _ _ ?_
              clear hK K
              refine wpAnyIn_ready (rs := [2]) (by kernel_rfl) (by simp) ?_
              refine AllReadyIn.cons rfl (fun K hK => ?_) ?_
              · go_simp
                refine hK _ _ ?_
                clear hK K
                refine wpAnyIn_ready (rs := [5]) (by kernel_rfl) (by simp) ?_
                refine AllReadyIn.cons rfl (fun K hK => ?_) ?_
                · go_simp
                  refine hK _ _ ?_
                  clear hK K
                  refine wpAnyIn_done (by kernel_rfl) ?_ _
                  gi_wp2
                  refine ⟨?_, HKP.out⟩
                  rw [HFIN.out]
                  exact HST.out
                exact AllReadyIn.nil
              exact AllReadyIn.nil
            exact AllReadyIn.nil
          refine AllReadyIn.cons rfl (fun K hK => ?_) ?_
          · go_simp
            refine hK _ _ ?_
            clear hK K
            refine wpAnyIn_ready (rs := [1]) (by kernel_rfl) (by simp) ?_
            refine AllReadyIn.cons rfl (fun K hK => ?_) ?_
            · go_simp
              refine hK _ _ ?_
              clear hK K
              refine wpAnyIn_ready (rs := [4]) (by kernel_rfl) (by simp) ?_
              refine AllReadyIn.cons rfl (fun K hK => ?_) ?_
              · go_simp
                refine hK _ _ ?_
                clear hK K
                refine wpAnyIn_ready (rs := [5]) (by kernel_rfl) (by simp) ?_
                refine AllReadyIn.cons rfl (fun K hK => ?_) ?_
                · go_simp
                  refine hK _ _ ?_
                  clear hK K
                  refine wpAnyIn_done (by kernel_rfl) ?_ _
                  gi_wp2
                  refine ⟨?_, HKP.out⟩
                  rw [HFIN.out]
                  exact HST.out
                exact AllReadyIn.nil
              exact AllReadyIn.nil
            exact AllReadyIn.nil
          exact AllReadyIn.nil
        refine AllReadyIn.cons rfl (fun K hK => ?_) ?_
        · go_simp
          refine hK _ _ ?_
          clear hK K
          refine wpAnyIn_ready (rs := [0]) (by kernel_rfl) (by simp) ?_
          refine AllReadyIn.cons rfl (fun K hK => ?_) ?_
          · go_simp
            refine hK _ _ ?_
            clear hK K
            refine wpAnyIn_ready (rs := [1]) (by kernel_rfl) (by simp) ?_
            refine AllReadyIn.cons rfl (fun K hK => ?_) ?_
            · go_simp
              refine hK _ _ ?_
              clear hK K
              refine wpAnyIn_ready (rs := [4]) (by kernel_rfl) (by simp) ?_
              refine AllReadyIn.cons rfl (fun K hK => ?_) ?_
              · go_simp
                refine hK _ _ ?_
                clear hK K
                refine wpAnyIn_ready (rs := [5]) (by kernel_rfl) (by simp) ?_
                refine AllReadyIn.cons rfl (fun K hK => ?_) ?_
                · go_simp
                  refine hK _ _ ?_
                  clear hK K
                  refine wpAnyIn_done (by kernel_rfl) ?_ _
                  gi_wp2
                  refine ⟨?_, HKP.out⟩
                  rw [HFIN.out]
                  exact HST.out
                exact AllReadyIn.nil
              exact AllReadyIn.nil
            exact AllReadyIn.nil
          exact AllReadyIn.nil
        exact AllReadyIn.nil
      exact AllReadyIn.nil
  case done =>
    intro W hj hK
    obtain ⟨⟨po, no, co, bo3, hown, hgO⟩, hprev⟩ := hj
    have HFIN : Hid (fin its [] = (its.map Prod.fst, 0, 0)) := by
      show _ = _
      rw [fin_ok its [] (fun x hx => by obtain ⟨i, hi, rfl⟩ := List.getElem_of_mem hx; exact hprev i _ hi (List.getElem?_eq_getElem hi))]; rfl
    rw [List.take_length] at hown
    have hshape := ownsRow_shape hown
    obtain rfl : no = its.length := by obtain ⟨p, c, e⟩ := hshape; injection e
    have o0 : W.cell? ⟨W0.heap.size, 0, none⟩ = some (.slice po its.length co) := bo3.cell 0
    have bd := BD3.out.grown hgO (by intro e; injection e with e; omega)
    have ba := BA3.out.grown hgO (by intro e; injection e with e; omega)
    have be := BE3.out.grown hgO (by intro e; injection e with e; omega)
    have r0 : W.cell? ⟨w.heap.size, 0, none⟩ = some (.slice none 0 0) := bd.cell 0
    have r1 : W.cell? ⟨w.heap.size + 1, 0, none⟩ = some (.int .i64 0) := ba.cell 0
    have r2 : W.cell? ⟨w.heap.size + 1 + 1, 0, none⟩ = some (.int .i64 0) := be.cell 0
    have f0 := bd.frozen 0
    have f1 := ba.frozen 0
    have f2 := be.frozen 0
    have HST : Hid (ResK w w.heap.size (its.map Prod.fst, 0, 0) (((W.setCell ⟨w.heap.size, 0, none⟩ (.slice po its.length co)).setCell ⟨w.heap.size + 1, 0, none⟩ (.int .i64 0)).setCell ⟨w.heap.size + 1 + 1, 0, none⟩ (.int .i64 0))) :=
      resK_store (B := W1.heap.size) bd ba be hown (fun t ht => by obtain ⟨x, hx, rfl⟩ := List.mem_map.1 ht; exact HOKT.out x hx) (by omega) (Nat.le_refl _) (HB3.out.grown hgO HB3.out.size (fun g e => by injection e with e; omega)) 0 0
    have HKP : Hid (KeepSoft W1.heap.size W (((W.setCell ⟨w.heap.size, 0, none⟩ (.slice po its.length co)).setCell ⟨w.heap.size + 1, 0, none⟩ (.int .i64 0)).setCell ⟨w.heap.size + 1 + 1, 0, none⟩ (.int .i64 0))) :=
      resK_keep bd ba be (KeepSoft.refl _ _) _ _ _
    have HK := Lib.hid hK
    clear bo3 hown hgO hprev hshape hK bd ba be
    go_wp2_with fail
    obtain ⟨W5, hW5⟩ : ∃ W5, W5 = ((W.setCell ⟨w.heap.size, 0, none⟩ (.slice po its.length co)).setCell ⟨w.heap.size + 1, 0, none⟩ (.int .i64 0)).setCell ⟨w.heap.size + 1 + 1, 0, none⟩ (.int .i64 0) := ⟨_, rfl⟩
    have hst : ResK w w.heap.size (its.map Prod.fst, 0, 0) W5 := hW5 ▸ HST.out
    have hkp : KeepSoft W1.heap.size W W5 := hW5 ▸ HKP.out
    rw [← hW5]
    clear hW5 HST HKP r0 r1 r2 f0 f1 f2
    have hK5 : W5.heap[W1.heap.size]? = some (.deferred (some [])) := (hkp.2 _ (Nat.le_refl _) (.inr ⟨_, HK.out⟩)).trans HK.out
    refine ⟨by simp, .inl ⟨_, _, rfl, run_takeDeferred hK5, ?_⟩⟩
    obtain ⟨v', b0, b1, b2, hs', hbel⟩ := hst.soft (.inr ⟨_, hK5⟩) (by omega) (putObj_grown2 W5 W1.heap.size (.deferred none))
    obtain ⟨W6, hW6⟩ : ∃ W6, W6 = W5.putObj W1.heap.size (.deferred none) := ⟨_, rfl⟩
    rw [← hW6] at b0 b1 b2 hs' hbel ⊢
    clear hW6
    have e0 : W6.cell? ⟨w.heap.size, 0, none⟩ = some v' := b0.cell 0
    have e1 : W6.cell? ⟨w.heap.size + 1, 0, none⟩ = some (.int .i64 0) := b1.cell 0
    have e2 : W6.cell? ⟨w.heap.size + 1 + 1, 0, none⟩ = some (.int .i64 0) := b2.cell 0
    refine ⟨.tuple #[v', .int .i64 0, .int .i64 0], by simp [results, Tryz.results22, go_sem, e0, e1, e2], ?_⟩
    rw [HFIN.out]
    exact ⟨v', rfl, hs', hbel⟩
  case stop =>
    rintro l r W3 W hr hx hl hs hgr hK
    have hx1 := hx.soft hs (by omega) hgr
    obtain ⟨v', b0, b1, b2, hs', hbel⟩ := hx1.soft (.inr ⟨_, hK⟩) (by omega) (putObj_grown2 W W1.heap.size (.deferred none))
    clear hx hx1 hgr hs
    gi_wp2
    refine ⟨by simp, .inl ⟨_, _, rfl, run_takeDeferred hK, ?_⟩⟩
    obtain ⟨W6, hW6⟩ : ∃ W6, W6 = W.putObj W1.heap.size (.deferred none) := ⟨_, rfl⟩
    rw [← hW6] at b0 b1 b2 hs' hbel ⊢
    clear hW6
    have e0 : W6.cell? ⟨w.heap.size, 0, none⟩ = some v' := b0.cell 0
    have e1 : W6.cell? ⟨w.heap.size + 1, 0, none⟩ = some (.int .i64 (fin its []).2.1) := b1.cell 0
    have e2 : W6.cell? ⟨w.heap.size + 1 + 1, 0, none⟩ = some (.int .i64 (((fin its []).2.2 : Nat) : Int)) := b2.cell 0
    refine ⟨.tuple #[v', .int .i64 (fin its []).2.1, .int .i64 (((fin its []).2.2 : Nat) : Int)], by simp [results, Tryz.results22, go_sem, e0, e1, e2], ?_⟩
    exact ⟨v', rfl, hs', hbel⟩

set_option maxRecDepth 100000 in
set_option maxHeartbeats 1000000 in
/-- Tokens: the tokens of a text, or the place and the kind of the first error. -/
theorem Tokens_c (w : World) (s : List UInt8) (hl : s.length ≤ 9223372036854775807) : Calls Tryz.prog 22 #[.string (bs s)] w (RetK w (toksF s)) := by
  by_cases h : 4096 < s.length
  · rw [toksF_long h]
    have hsl : (bs s).size = s.length := bs_size s
    go_enter Tryz.func22, Tryz.ntmps22
    go_wp2_with fail
    refine bodyPost_ret (v := .tuple #[.slice none 0 0, .int .i64 4096, .int .i64 3]) (by simp [results, Tryz.results22, go_sem]) rfl ?_
    exact ⟨_, rfl, SlK.nil _, ((((Below.refl _ w).alloc (Nat.le_refl _) _).alloc (by simp) _).alloc (by simp; omega) _)⟩
  · rw [toksF_ok h]
    exact tokens_ok w s (by omega)
end Go.Proofs.YtganlldidjbpiaaGreatDoor

namespace Go.Proofs.YtganlldidjbpiaaGreatDoor

theorem joinL_snoc (sep x : List UInt8) : ∀ l : List (List UInt8), l ≠ [] → joinL sep (l ++ [x]) = joinL sep l ++ sep ++ x
  | [], h => absurd rfl h
  | [y], _ => by simp [joinL]
  | y :: z :: r, _ => by
    have ih := joinL_snoc sep x (z :: r) (by simp)
    rw [List.cons_append] at ih
    rw [List.cons_append, List.cons_append, joinL, ih, joinL]
    simp [List.append_assoc]
theorem joinL_take_zero (sep : List UInt8) (xs : List (List UInt8)) : joinL sep (xs.take 0) = [] := by rw [List.take_zero]; rfl
theorem joinL_take_one (sep : List UInt8) (xs : List (List UInt8)) (h : 0 < xs.length) : joinL sep (xs.take 1) = xs[0] := by
  cases xs with
  | nil => simp at h
  | cons x r => rfl
theorem joinL_take_next (sep : List UInt8) (xs : List (List UInt8)) (i : Nat) (h : i < xs.length) (h0 : 0 < i) : joinL sep (xs.take (i + 1)) = joinL sep (xs.take i) ++ sep ++ xs[i] := by
  rw [List.take_succ_eq_append_getElem h, joinL_snoc]
  intro e
  have := congrArg List.length e
  rw [List.length_take, List.length_nil] at this
  omega
theorem sum_take_le : ∀ (l : List Nat) (i : Nat), (l.take i).sum ≤ l.sum
  | [], i => by simp
  | x :: l, 0 => by simp
  | x :: l, i + 1 => by
    have := sum_take_le l i
    simp only [List.take_succ_cons, List.sum_cons]
    omega
theorem joinL_take_le (sep : List UInt8) (xs : List (List UInt8)) (i : Nat) : (joinL sep (xs.take i)).length ≤ (joinL sep xs).length := by
  rw [joinL_len, joinL_len, List.map_take, List.length_take]
  have h1 := sum_take_le (xs.map List.length) i
  have h2 : min i xs.length - 1 ≤ xs.length - 1 := by omega
  have h3 := Nat.mul_le_mul_left sep.length h2
  omega
/-- The texts of tokens. -/
def txts (ts : List Tok) : List (List UInt8) := ts.map Tok.text
theorem txts_len (ts : List Tok) : (txts ts).length = ts.length := by unfold txts; simp
/-- The sum of the lengths of the first texts. -/
def sumT (ts : List Tok) (i : Nat) : Nat := (((txts ts).take i).map List.length).sum
theorem sumT_next {ts : List Tok} {i : Nat} (h : i < ts.length) : sumT ts (i + 1) = sumT ts i + (ts[i]).text.length := by
  unfold sumT
  rw [sum_len_take _ _ (by rw [txts_len]; exact h)]
  simp [txts]
theorem sumT_all (ts : List Tok) : sumT ts ts.length = ((txts ts).map List.length).sum := by
  unfold sumT
  rw [List.take_of_length_le (by rw [txts_len]; exact Nat.le_refl _)]
theorem sumT_small {ts : List Tok} {i : Nat} (hi : i ≤ ts.length) (h : ∀ j (h : j < ts.length), j < i → rightT ts[j]) : sumT ts i ≤ 12 * i := by
  unfold sumT
  refine Nat.le_trans (sum_len_le _ ?_) ?_
  · intro x hx
    obtain ⟨j, hj, rfl⟩ := List.getElem_of_mem hx
    rw [List.length_take, txts_len] at hj
    rw [List.getElem_take]
    have := rightT_len (h j (by omega) (by omega))
    simpa [txts] using this
  · rw [List.length_take]; omega
theorem sumT_zero (ts : List Tok) : sumT ts 0 = 0 := by unfold sumT; simp
end Go.Proofs.YtganlldidjbpiaaGreatDoor

/- Walks of the reference of lexis: Tokens. -/
import Derived.Test.YtganlldidjbpiaaGreatDoorQLexV3
import Derived.Test.YtganlldidjbpiaaGreatDoorK15
set_option linter.unusedVariables false
namespace Go.Proofs.YtganlldidjbpiaaGreatDoor
open Go.RowKit

/-- So many tokens are collected in a row that was made in the call. -/
def RowAt (its : List (Tok × Nat)) (w : World) (r : Nat) (v : Value) (W : World) : Prop := W.ownsRow w.heap.size 37 4 v r (cellsT ((its.take r).map Prod.fst)) ∧ Below w.heap.size w W
theorem RowAt.shape {its : List (Tok × Nat)} {w W : World} {r : Nat} {v : Value} (h : RowAt its w r v W) : ∃ p c, v = .slice p r c := ownsRow_shape h.1
theorem ownsRow_lt {W : World} {base n size : Nat} {t : TypeId} {v : Value} {xs : List Value} (h : W.ownsRow base t size v n xs) : ∀ g, v.ownBlock = some g → g < W.heap.size := by
  intro g hg
  rcases h.2 with ⟨rfl, _⟩ | ⟨g', cap, cur, rfl, hle, hb, _⟩
  · cases hg
  · obtain rfl : g' = g := by simpa [Value.ownBlock] using hg
    exact (Array.getElem?_eq_some_iff.1 hb).1
theorem RowAt.after {its : List (Tok × Nat)} {w W W' : World} {r : Nat} {v : Value} (h : RowAt its w r v W) (hb : Below W.heap.size W W') : RowAt its w r v W' := ⟨ownsRow_after h.1 hb, h.2.trans (hb.mono h.2.size)⟩
theorem RowAt.next {its : List (Tok × Nat)} {w W W' : World} {r k : Nat} {v v' : Value} {x : List UInt8} {n o : Int} {cs : Array Value} {t : TypeId} (h : RowAt its w r v W) (hit : its[r]? = some (⟨k, x, n, o⟩, 0))
    (hown : W'.ownsRow w.heap.size 37 4 v' (r + 1) (cellsT ((its.take r).map Prod.fst) ++ cellsOf ⟨k, x, n, o⟩)) (hg : (W.alloc (.cells cs t)).grownBy W' v.ownBlock) : RowAt its w (r + 1) v' W' := by
  have hlt : r < its.length := (List.getElem?_eq_some_iff.1 hit).1
  have hgt : its[r] = (⟨k, x, n, o⟩, 0) := by
    have := List.getElem?_eq_getElem hlt
    rw [hit] at this
    injection this with this
    exact this.symm
  have e : (its.take (r + 1)).map Prod.fst = (its.take r).map Prod.fst ++ [⟨k, x, n, o⟩] := by
    rw [List.take_succ_eq_append_getElem hlt, List.map_append, hgt]; rfl
  refine ⟨by rw [e, cellsT_snoc]; exact hown, ?_⟩
  exact (h.2.alloc h.2.size _).grown hg (Nat.le_trans h.2.size (by simp)) (fun g e => (ownsRow_ge h.1 g e).1)

set_option maxRecDepth 100000 in
set_option maxHeartbeats 4000000 in
theorem rtokens_ok (w : World) (s : List UInt8) (hs : s.length ≤ 4096) : Calls Tryz.prog 21 #[.string (bs s)] w (RetK w (fin (items 0 s) [])) := by
  have hsl : (bs s).size = s.length := bs_size s
  obtain ⟨its, hits⟩ : ∃ its, items 0 s = its := ⟨_, rfl⟩
  have hil : its.length ≤ 4096 := by have := items_len 0 s; rw [hits] at this; omega
  have HOKT : Hid (∀ x ∈ its, TokOk x.1) := by have := items_tokok s hs 0 s (by omega); rw [hits] at this; exact this
  have HITS := Lib.hid hits
  rw [hits]
  obtain ⟨N, hN⟩ : ∃ N, its.length = N := ⟨_, rfl⟩
  have HN := Lib.hid hN
  rw [hN] at hil
  have hi0 := idleN_le s
  have HL0 := Lib.hid (left_start s)
  obtain ⟨q0, hq0⟩ : ∃ i, idleN s = i := ⟨_, rfl⟩
  rw [hq0] at HL0 hi0
  have HI : Hid (0 + idleN (s.drop 0) = q0) := by show _ = _; rw [List.drop_zero, hq0, Nat.zero_add]
  clear hits hN hq0
  obtain ⟨i0, hi, hz0, hz1, hz2⟩ := infoT_parts
  have hlm : maxLen = 9223372036854775807 := rfl
  have HLM := Lib.hid hlm
  clear hlm
  go_enter Tryz.func21, Tryz.ntmps21
  go_wp2_with fail
  refine (rskip_c s 0 (by omega) _ (by omega)).mono ?_
  rintro e w' ⟨rfl, rfl⟩
  rw [HI.out]
  go_wp2_with fail
  go_loopg [5, 6] (s.length + 1 - q0) (fun g v t wx => ∃ r o : Nat, r ≤ N ∧ o ≤ s.length ∧ g = s.length + 1 - o ∧ t = .int .i64 (o : Int) ∧ Hid (LeftAt s r o) ∧ Hid (RowAt its w r v wx))
  case atStart => exact ⟨0, q0, Nat.zero_le _, hi0, rfl, rfl, HL0.out, ⟨by simp [cellsT], .inl ⟨rfl, rfl⟩⟩, Below.refl _ _⟩
  case round =>
    rename_i vr _
    obtain ⟨r, o, hrle, ho, rfl, rfl, hleft, hrow⟩ := hrel
    clear HL0
    obtain ⟨pr, cr, rfl⟩ := hrow.out.shape
    by_cases hlt : o < s.length
    · obtain ⟨c, m, hc⟩ : ∃ c m, s.drop o = c :: m := ⟨_, _, List.drop_eq_getElem_cons hlt⟩
      obtain ⟨hit, hnext⟩ := left_step hleft.out hc
      rw [HITS.out] at hit
      have hrN : r < N := by rw [← HN.out]; exact (List.getElem?_eq_some_iff.1 hit).1
      have hoff := fst1_off (c :: m)
      have htx := fst1_text (l := c :: m)
      have hbad := fst1_bad (l := c :: m)
      have hcl : (c :: m).length = s.length - o := by rw [← hc, List.length_drop]
      have hone : Hid (oneF s o = if (fst1 (c :: m)).2 = 0 then ((fst1 (c :: m)).1.at_ (o : Int), 0) else fst1 (c :: m)) := by show _ = _; unfold oneF; rw [hc]
      obtain ⟨⟨⟨k, x, n, f⟩, e⟩, hf⟩ : ∃ p, fst1 (c :: m) = p := ⟨_, rfl⟩
      rw [hf] at hit hnext hoff htx hbad hone
      simp only at hnext hoff htx hbad
      subst hoff
      have hprev := hleft.out.2.2.2
      rw [HITS.out] at hprev
      have HIT : Hid (its[r]? = some (⟨k, x, n, (o : Int)⟩, e)) := hit
      have HPREV := Lib.hid hprev
      by_cases he : e = 0
      · subst he
        have h1 : Hid (oneF s o = (⟨k, x, n, (o : Int)⟩, 0)) := hone.out
        have hxl : x.length ≤ s.length - o := by have := (htx rfl).2.1; omega
        have hx0 : 0 < x.length := (htx rfl).1
        have hnx := hnext rfl
        obtain ⟨o2, ho2⟩ : ∃ o2, o + x.length + idleN (s.drop (o + x.length)) = o2 := ⟨_, rfl⟩
        rw [ho2] at hnx
        have ho2l := hnx.1
        have ho2g : o < o2 := by omega
        have HNXT := Lib.hid hnx
        have HO2 := Lib.hid ho2
        have hsx : (bs x).size = x.length := bs_size x
        clear hit hnext hf htx hbad hone hnx ho2 hc hprev hcl
        go_wp2_with fail
        refine (rone_c s o hlt _ (by omega)).mono ?_
        rw [h1.out]
        rintro e' w3 ⟨rfl, hb3⟩
        simp only [aggT]
        have HR3 := Lib.hid (hrow.out.after hb3)
        have bx := Box.new w3 #[.int .u8 (k : Int), .string (bs x), .int .i64 n, .int .i64 (o : Int)] 37
        clear hb3 hrow
        go_upto_region 7 with fail
        obtain ⟨w4, hw4⟩ : ∃ w4, w4 = w3.alloc (.cells #[.int .u8 (k : Int), .string (bs x), .int .i64 n, .int .i64 (o : Int)] 37) := ⟨_, rfl⟩
        rw [← hw4] at bx ⊢
        have HBL := Lib.hid (ownsRow_lt HR3.out.1)
        have HR4 : Hid (RowAt its w r (.slice pr r cr) w4) := HR3.out.after (hw4 ▸ held_alloc (Below.refl _ w3))
        have BX := Lib.hid bx
        obtain ⟨c0, c1, c2, c3⟩ := bx.cells4
        have hlt4 := bx.lt
        have hw0 : w.heap.size ≤ w4.heap.size := HR4.out.2.size
        clear hw4 HR3 bx
        go_wp2_with (at_builtin; refine wpList_append_own _ rfl _ _ 32 rfl w.heap.size 37 i0 (.agg #[.int .u8 0, .string ⟨#[]⟩, .int .i64 0, .int .i64 0]) 4 40 Tryz.underlying32 hi hz0 hz1 hz2 rfl (by decide) _ _ _ rfl (HR4.out.1.alloc _) ⟨w4.heap.size, 0, none⟩ 1 1 [.int .u8 (k : Int), .string (bs x), .int .i64 n, .int .i64 (o : Int)] rfl rfl cell_four (by intro u hu; simp at hu; rcases hu with rfl | rfl | rfl | rfl <;> rfl) (by rw [HLM.out]; omega) (by omega) (by simp; omega) ?_)
        intro v5 w5 hown5 hgr5 _
        have HR5 : Hid (RowAt its w (r + 1) v5 w5) := HR4.out.next HIT.out (by rw [List.map_take]; exact hown5) hgr5
        obtain ⟨p5, c5, rfl⟩ := ownsRow_shape hown5
        have hnr : some w3.heap.size ≠ (Value.slice pr r cr).ownBlock := fun e => by have := HBL.out _ e.symm; omega
        have b5 : Box w5 w3.heap.size #[.int .u8 (k : Int), .string (bs x), .int .i64 n, .int .i64 (o : Int)] 37 := (BX.out.alloc _).grown hgr5 hnr
        obtain ⟨c0, c1, c2, c3⟩ := b5.cells4
        have hlt5 := b5.lt
        clear hown5 hgr5 hnr b5
        go_wp2_with fail
        refine (rskip_c s (o + x.length) (by omega) _ (by omega)).mono ?_
        rintro e w' ⟨rfl, rfl⟩
        rw [HO2.out]
        go_wp2_with fail
        go_roundg (s.length + 1 - o2)
        case measure => omega
        case rel => exact ⟨r + 1, o2, hrN, ho2l, rfl, rfl, HNXT.out, HR5.out⟩
      · have he' : ((e : Int) != 0) = true := by simp; omega
        have h1 : Hid (oneF s o = (⟨k, x, n, 0⟩, e)) := by have := hone.out; rw [if_neg he] at this; exact this
        have HFIN : Hid (fin its [] = ([], (o : Int), e)) := fin_at HIT.out he HPREV.out
        clear hit hnext hf htx hbad hone he hc hprev hcl
        go_wp2_with fail
        refine (rone_c s o hlt _ (by omega)).mono ?_
        rw [h1.out]
        rintro e' w3 ⟨rfl, hb3⟩
        simp only [aggT]
        have HR3 := Lib.hid (hrow.out.after hb3)
        clear hb3 hrow
        go_wp2_with fail
        refine bodyPost_ret (v := .tuple #[.slice none 0 0, .int .i64 (o : Int), .int .i64 (e : Int)]) (by simp [results, Tryz.results21, go_sem]) rfl ?_
        rw [HFIN.out]
        exact ⟨_, rfl, SlK.nil _, held_alloc HR3.out.2 HR3.out.2.size⟩
    · obtain rfl : o = s.length := by omega
      have hend := left_end hleft.out
      rw [HITS.out, HN.out] at hend
      obtain rfl : r = N := by omega
      have hprev := hleft.out.2.2.2
      rw [HITS.out] at hprev
      have HFIN : Hid (fin its [] = (its.map Prod.fst, 0, 0)) := by
        show _ = _
        rw [fin_ok its [] (fun x hx => by obtain ⟨i, hi, rfl⟩ := List.getElem_of_mem hx; exact hprev i _ (by rw [← HN.out]; exact hi) (List.getElem?_eq_getElem hi))]; rfl
      have HSL : Hid (SlK wr (.slice pr r cr) (its.map Prod.fst)) := by
        have := hrow.out.1
        rw [List.take_of_length_le (Nat.le_of_eq HN.out)] at this
        exact SlK.of_own this (fun t ht => by obtain ⟨x, hx, rfl⟩ := List.mem_map.1 ht; exact HOKT.out x hx)
      clear hprev
      go_wp2_with fail
      refine bodyPost_ret (v := .tuple #[.slice pr r cr, .int .i64 0, .int .i64 0]) (by simp [results, Tryz.results21, go_sem]) rfl ?_
      rw [HFIN.out]
      exact ⟨_, rfl, HSL.out, hrow.out.2⟩

set_option maxRecDepth 100000 in
set_option maxHeartbeats 1000000 in
/-- The reference's Tokens: the same. -/
theorem rTokens_c (w : World) (s : List UInt8) (hl : s.length ≤ 9223372036854775807) : Calls Tryz.prog 21 #[.string (bs s)] w (RetK w (toksF s)) := by
  by_cases h : 4096 < s.length
  · rw [toksF_long h]
    have hsl : (bs s).size = s.length := bs_size s
    go_enter Tryz.func21, Tryz.ntmps21
    go_wp2_with fail
    refine bodyPost_ret (v := .tuple #[.slice none 0 0, .int .i64 4096, .int .i64 3]) (by simp [results, Tryz.results21, go_sem]) rfl ?_
    exact ⟨_, rfl, SlK.nil _, Below.refl _ w⟩
  · rw [toksF_ok h]
    exact rtokens_ok w s (by omega)
end Go.Proofs.YtganlldidjbpiaaGreatDoor

/- Walks of the reference of lexis: Tokens.
   Walks of the reference of lexis: Right, Same, Equal (where they answer 'true').
   Walks of the reference of lexis: Print.
   The statements' own functions: awake, idle.
   Lexis, plain: what Tokens returns where it succeeds and where it fails; what comes back of a printed text. No program in it.
   How a law's statement follows from its walk: the arguments read as they did where nothing below the heap's old size has turned. -/
import Derived.Test.YtnifndolopnbfaaDoorK06
import Derived.Test.YtnifndolopnbfaaDoorK05
import Derived.Test.YtnifndolopnbfaaDoorK04
import Derived.Deep.QuietTactic
import Derived.Test.YtnifndolopnbfaaDoorK02
import Derived.Test.YtnifndolopnbfaaDoorRows
import Derived.ProofKit
import Derived.OpenShut
import Derived.WideKeyArgs
set_option linter.unusedVariables false
namespace Go.Proofs.YtnifndolopnbfaaDoor
open Go.RowKit

/-- So many tokens are collected in a row that was made in the call. -/
def RowAt (its : List (Tok × Nat)) (w : World) (r : Nat) (v : Value) (W : World) : Prop := W.ownsRow w.heap.size 34 4 v r (cellsT ((its.take r).map Prod.fst)) ∧ Below w.heap.size w W
theorem RowAt.shape {its : List (Tok × Nat)} {w W : World} {r : Nat} {v : Value} (h : RowAt its w r v W) : ∃ p c, v = .slice p r c := ownsRow_shape h.1
theorem ownsRow_lt {W : World} {base n size : Nat} {t : TypeId} {v : Value} {xs : List Value} (h : W.ownsRow base t size v n xs) : ∀ g, v.ownBlock = some g → g < W.heap.size := by
  intro g hg
  rcases h.2 with ⟨rfl, _⟩ | ⟨g', cap, cur, rfl, hle, hb, _⟩
  · cases hg
  · obtain rfl : g' = g := by simpa [Value.ownBlock] using hg
    exact (Array.getElem?_eq_some_iff.1 hb).1
theorem RowAt.after {its : List (Tok × Nat)} {w W W' : World} {r : Nat} {v : Value} (h : RowAt its w r v W) (hb : Below W.heap.size W W') : RowAt its w r v W' := ⟨ownsRow_after h.1 hb, h.2.trans (hb.mono h.2.size)⟩
theorem RowAt.next {its : List (Tok × Nat)} {w W W' : World} {r k : Nat} {v v' : Value} {x : List UInt8} {n o : Int} {cs : Array Value} {t : TypeId} (h : RowAt its w r v W) (hit : its[r]? = some (⟨k, x, n, o⟩, 0))
    (hown : W'.ownsRow w.heap.size 34 4 v' (r + 1) (cellsT ((its.take r).map Prod.fst) ++ cellsOf ⟨k, x, n, o⟩)) (hg : (W.alloc (.cells cs t)).grownBy W' v.ownBlock) : RowAt its w (r + 1) v' W' := by
  have hlt : r < its.length := (List.getElem?_eq_some_iff.1 hit).1
  have hgt : its[r] = (⟨k, x, n, o⟩, 0) := by
    have := List.getElem?_eq_getElem hlt
    rw [hit] at this
    injection this with this
    exact this.symm
  have e : (its.take (r + 1)).map Prod.fst = (its.take r).map Prod.fst ++ [⟨k, x, n, o⟩] := by
    rw [List.take_succ_eq_append_getElem hlt, List.map_append, hgt]; rfl
  refine ⟨by rw [e, cellsT_snoc]; exact hown, ?_⟩
  exact (h.2.alloc h.2.size _).grown hg (Nat.le_trans h.2.size (by simp)) (fun g e => (ownsRow_ge h.1 g e).1)

set_option maxRecDepth 100000 in
set_option maxHeartbeats 4000000 in
theorem rtokens_ok (w : World) (s : List UInt8) (hs : s.length ≤ 4096) : Calls Tryd.prog 11 #[.string (bs s)] w (RetK w (fin (items 0 s) [])) := by
  have hsl : (bs s).size = s.length := bs_size s
  obtain ⟨its, hits⟩ : ∃ its, items 0 s = its := ⟨_, rfl⟩
  have hil : its.length ≤ 4096 := by have := items_len 0 s; rw [hits] at this; omega
  have HOKT : Hid (∀ x ∈ its, TokOk x.1) := by have := items_tokok s hs 0 s (by omega); rw [hits] at this; exact this
  have HITS := Lib.hid hits
  rw [hits]
  obtain ⟨N, hN⟩ : ∃ N, its.length = N := ⟨_, rfl⟩
  have HN := Lib.hid hN
  rw [hN] at hil
  have hi0 := idleN_le s
  have HL0 := Lib.hid (left_start s)
  obtain ⟨q0, hq0⟩ : ∃ i, idleN s = i := ⟨_, rfl⟩
  rw [hq0] at HL0 hi0
  have HI : Hid (0 + idleN (s.drop 0) = q0) := by show _ = _; rw [List.drop_zero, hq0, Nat.zero_add]
  clear hits hN hq0
  obtain ⟨i0, hi, hz0, hz1, hz2⟩ := infoT_parts
  have hlm : maxLen = 9223372036854775807 := rfl
  have HLM := Lib.hid hlm
  clear hlm
  go_enter Tryd.func11, Tryd.ntmps11
  go_wp2_with fail
  refine (rskip_c s 0 (by omega) _ (by omega)).mono ?_
  rintro e w' ⟨rfl, rfl⟩
  rw [HI.out]
  go_wp2_with fail
  go_loopg [5, 6] (s.length + 1 - q0) (fun g v t wx => ∃ r o : Nat, r ≤ N ∧ o ≤ s.length ∧ g = s.length + 1 - o ∧ t = .int .i64 (o : Int) ∧ Hid (LeftAt s r o) ∧ Hid (RowAt its w r v wx))
  case atStart => exact ⟨0, q0, Nat.zero_le _, hi0, rfl, rfl, HL0.out, ⟨by simp [cellsT], .inl ⟨rfl, rfl⟩⟩, Below.refl _ _⟩
  case round =>
    rename_i vr _
    obtain ⟨r, o, hrle, ho, rfl, rfl, hleft, hrow⟩ := hrel
    clear HL0
    obtain ⟨pr, cr, rfl⟩ := hrow.out.shape
    by_cases hlt : o < s.length
    · obtain ⟨c, m, hc⟩ : ∃ c m, s.drop o = c :: m := ⟨_, _, List.drop_eq_getElem_cons hlt⟩
      obtain ⟨hit, hnext⟩ := left_step hleft.out hc
      rw [HITS.out] at hit
      have hrN : r < N := by rw [← HN.out]; exact (List.getElem?_eq_some_iff.1 hit).1
      have hoff := fst1_off (c :: m)
      have htx := fst1_text (l := c :: m)
      have hbad := fst1_bad (l := c :: m)
      have hcl : (c :: m).length = s.length - o := by rw [← hc, List.length_drop]
      have hone : Hid (oneF s o = if (fst1 (c :: m)).2 = 0 then ((fst1 (c :: m)).1.at_ (o : Int), 0) else fst1 (c :: m)) := by show _ = _; unfold oneF; rw [hc]
      obtain ⟨⟨⟨k, x, n, f⟩, e⟩, hf⟩ : ∃ p, fst1 (c :: m) = p := ⟨_, rfl⟩
      rw [hf] at hit hnext hoff htx hbad hone
      simp only at hnext hoff htx hbad
      subst hoff
      have hprev := hleft.out.2.2.2
      rw [HITS.out] at hprev
      have HIT : Hid (its[r]? = some (⟨k, x, n, (o : Int)⟩, e)) := hit
      have HPREV := Lib.hid hprev
      by_cases he : e = 0
      · subst he
        have h1 : Hid (oneF s o = (⟨k, x, n, (o : Int)⟩, 0)) := hone.out
        have hxl : x.length ≤ s.length - o := by have := (htx rfl).2.1; omega
        have hx0 : 0 < x.length := (htx rfl).1
        have hnx := hnext rfl
        obtain ⟨o2, ho2⟩ : ∃ o2, o + x.length + idleN (s.drop (o + x.length)) = o2 := ⟨_, rfl⟩
        rw [ho2] at hnx
        have ho2l := hnx.1
        have ho2g : o < o2 := by omega
        have HNXT := Lib.hid hnx
        have HO2 := Lib.hid ho2
        have hsx : (bs x).size = x.length := bs_size x
        clear hit hnext hf htx hbad hone hnx ho2 hc hprev hcl
        go_wp2_with fail
        refine (rone_c s o hlt _ (by omega)).mono ?_
        rw [h1.out]
        rintro e' w3 ⟨rfl, hb3⟩
        simp only [aggT]
        have HR3 := Lib.hid (hrow.out.after hb3)
        have bx := Box.new w3 #[.int .u8 (k : Int), .string (bs x), .int .i64 n, .int .i64 (o : Int)] 34
        clear hb3 hrow
        go_upto_region 7 with fail
        obtain ⟨w4, hw4⟩ : ∃ w4, w4 = w3.alloc (.cells #[.int .u8 (k : Int), .string (bs x), .int .i64 n, .int .i64 (o : Int)] 34) := ⟨_, rfl⟩
        rw [← hw4] at bx ⊢
        have HBL := Lib.hid (ownsRow_lt HR3.out.1)
        have HR4 : Hid (RowAt its w r (.slice pr r cr) w4) := HR3.out.after (hw4 ▸ held_alloc (Below.refl _ w3))
        have BX := Lib.hid bx
        obtain ⟨c0, c1, c2, c3⟩ := bx.cells4
        have hlt4 := bx.lt
        have hw0 : w.heap.size ≤ w4.heap.size := HR4.out.2.size
        clear hw4 HR3 bx
        go_wp2_with (at_builtin; refine wpList_append_own _ rfl _ _ 22 rfl w.heap.size 34 i0 (.agg #[.int .u8 0, .string ⟨#[]⟩, .int .i64 0, .int .i64 0]) 4 40 Tryd.underlying22 hi hz0 hz1 hz2 rfl (by decide) _ _ _ rfl (HR4.out.1.alloc _) ⟨w4.heap.size, 0, none⟩ 1 1 [.int .u8 (k : Int), .string (bs x), .int .i64 n, .int .i64 (o : Int)] rfl rfl cell_four (by intro u hu; simp at hu; rcases hu with rfl | rfl | rfl | rfl <;> rfl) (by rw [HLM.out]; omega) (by omega) (by simp; omega) ?_)
        intro v5 w5 hown5 hgr5 _
        have HR5 : Hid (RowAt its w (r + 1) v5 w5) := HR4.out.next HIT.out (by rw [List.map_take]; exact hown5) hgr5
        obtain ⟨p5, c5, rfl⟩ := ownsRow_shape hown5
        have hnr : some w3.heap.size ≠ (Value.slice pr r cr).ownBlock := fun e => by have := HBL.out _ e.symm; omega
        have b5 : Box w5 w3.heap.size #[.int .u8 (k : Int), .string (bs x), .int .i64 n, .int .i64 (o : Int)] 34 := (BX.out.alloc _).grown hgr5 hnr
        obtain ⟨c0, c1, c2, c3⟩ := b5.cells4
        have hlt5 := b5.lt
        clear hown5 hgr5 hnr b5
        go_wp2_with fail
        refine (rskip_c s (o + x.length) (by omega) _ (by omega)).mono ?_
        rintro e w' ⟨rfl, rfl⟩
        rw [HO2.out]
        go_wp2_with fail
        go_roundg (s.length + 1 - o2)
        case measure => omega
        case rel => exact ⟨r + 1, o2, hrN, ho2l, rfl, rfl, HNXT.out, HR5.out⟩
      · have he' : ((e : Int) != 0) = true := by simp; omega
        have h1 : Hid (oneF s o = (⟨k, x, n, 0⟩, e)) := by have := hone.out; rw [if_neg he] at this; exact this
        have HFIN : Hid (fin its [] = ([], (o : Int), e)) := fin_at HIT.out he HPREV.out
        clear hit hnext hf htx hbad hone he hc hprev hcl
        go_wp2_with fail
        refine (rone_c s o hlt _ (by omega)).mono ?_
        rw [h1.out]
        rintro e' w3 ⟨rfl, hb3⟩
        simp only [aggT]
        have HR3 := Lib.hid (hrow.out.after hb3)
        clear hb3 hrow
        go_wp2_with fail
        refine bodyPost_ret (v := .tuple #[.slice none 0 0, .int .i64 (o : Int), .int .i64 (e : Int)]) (by simp [results, Tryd.results11, go_sem]) rfl ?_
        rw [HFIN.out]
        exact ⟨_, rfl, SlK.nil _, held_alloc HR3.out.2 HR3.out.2.size⟩
    · obtain rfl : o = s.length := by omega
      have hend := left_end hleft.out
      rw [HITS.out, HN.out] at hend
      obtain rfl : r = N := by omega
      have hprev := hleft.out.2.2.2
      rw [HITS.out] at hprev
      have HFIN : Hid (fin its [] = (its.map Prod.fst, 0, 0)) := by
        show _ = _
        rw [fin_ok its [] (fun x hx => by obtain ⟨i, hi, rfl⟩ := List.getElem_of_mem hx; exact hprev i _ (by rw [← HN.out]; exact hi) (List.getElem?_eq_getElem hi))]; rfl
      have HSL : Hid (SlK wr (.slice pr r cr) (its.map Prod.fst)) := by
        have := hrow.out.1
        rw [List.take_of_length_le (Nat.le_of_eq HN.out)] at this
        exact SlK.of_own this (fun t ht => by obtain ⟨x, hx, rfl⟩ := List.mem_map.1 ht; exact HOKT.out x hx)
      clear hprev
      go_wp2_with fail
      refine bodyPost_ret (v := .tuple #[.slice pr r cr, .int .i64 0, .int .i64 0]) (by simp [results, Tryd.results11, go_sem]) rfl ?_
      rw [HFIN.out]
      exact ⟨_, rfl, HSL.out, hrow.out.2⟩

set_option maxRecDepth 100000 in
set_option maxHeartbeats 1000000 in
/-- The reference's Tokens: the same. -/
theorem rTokens_c (w : World) (s : List UInt8) (hl : s.length ≤ 9223372036854775807) : Calls Tryd.prog 11 #[.string (bs s)] w (RetK w (toksF s)) := by
  by_cases h : 4096 < s.length
  · rw [toksF_long h]
    have hsl : (bs s).size = s.length := bs_size s
    go_enter Tryd.func11, Tryd.ntmps11
    go_wp2_with fail
    refine bodyPost_ret (v := .tuple #[.slice none 0 0, .int .i64 4096, .int .i64 3]) (by simp [results, Tryd.results11, go_sem]) rfl ?_
    exact ⟨_, rfl, SlK.nil _, Below.refl _ w⟩
  · rw [toksF_ok h]
    exact rtokens_ok w s (by omega)
end Go.Proofs.YtnifndolopnbfaaDoor

namespace Go.Proofs.YtnifndolopnbfaaDoor
open Go.RowKit

theorem oneF_zero (l : List UInt8) : oneF l 0 = fst1 l := by
  have hoff := fst1_off l
  unfold oneF
  rw [List.drop_zero]
  cases h : fst1 l with
  | mk t e =>
    cases t with
    | mk k x n f =>
      rw [h] at hoff
      simp only at hoff
      subst hoff
      by_cases he : e = 0
      · subst he; rfl
      · simp [he]
set_option maxRecDepth 100000 in
set_option maxHeartbeats 4000000 in
theorem rRight_c (t : Tok) (w : World) (hl : t.text.length ≤ 9223372036854775807) :
    Calls Tryd.prog 23 #[aggT t] w fun e w' => e = .returned (.bool (decide (rightT t))) ∧ Below w.heap.size w w' := by
  obtain ⟨k, x, n, o⟩ := t
  cases x with
  | nil =>
    have hr : decide (rightT ⟨k, [], n, o⟩) = false := decide_eq_false (fun h => h.1 rfl)
    rw [hr]
    simp only [aggT, show bs [] = (⟨#[]⟩ : ByteArray) from rfl]
    go_enter Tryd.func23, Tryd.ntmps23
    go_wp2_with fail
    go_ret
    exact ⟨rfl, held_alloc (Below.refl _ _)⟩
  | cons c m =>
    rw [right_dec _ (by simp)]
    simp only [aggT]
    obtain ⟨⟨⟨k', x', n', f⟩, e⟩, hf⟩ : ∃ p, fst1 (c :: m) = p := ⟨_, rfl⟩
    simp only [hf]
    have hemp : (bs (c :: m)).toList.isEmpty = false := by rw [list_ba]; rfl
    have HF : Hid (oneF (c :: m) 0 = (⟨k', x', n', f⟩, e)) := by show _ = _; rw [oneF_zero, hf]
    have hlen : (c :: m).length ≤ 9223372036854775807 := hl
    clear hf
    go_enter Tryd.func23, Tryd.ntmps23
    go_wp2_with fail
    refine (rone_c (c :: m) 0 (by simp) _ (by omega)).mono ?_
    rintro e' w3 ⟨rfl, hb3⟩
    rw [HF.out]
    simp only [aggT]
    have b1 := (Box.new w #[.int .u8 (k : Int), .string (bs (c :: m)), .int .i64 n, .int .i64 o] 34).after hb3
    obtain ⟨r0, r1, r2, r3⟩ := b1.cells4
    have hlt := b1.lt
    have HB : Hid (Below w.heap.size w w3) := (held_alloc (Below.refl _ w)).trans (hb3.mono (by simp))
    clear hb3 b1
    by_cases he : e = 0
    · subst he
      by_cases hk : k' = k
      · subst hk
        by_cases hx : x' = c :: m
        · subst hx
          by_cases hn : n' = n
          · subst hn
            go_wp2_with fail
            go_ret
            exact ⟨ret_bool (by simp), held_alloc HB.out (by have := HB.out.size; omega)⟩
          · have hn' : (n' == n) = false := by simpa using hn
            go_wp2_with fail
            go_ret
            exact ⟨ret_bool (by simp), held_alloc HB.out (by have := HB.out.size; omega)⟩
        · have hx' : ((bs x').toList == (bs (c :: m)).toList) = false := by rw [list_ba, list_ba]; simpa using hx
          go_wp2_with fail
          go_ret
          exact ⟨ret_bool (by simp), held_alloc HB.out (by have := HB.out.size; omega)⟩
      · have hk' : ((k' : Int) == (k : Int)) = false := by simp; omega
        go_wp2_with fail
        go_ret
        exact ⟨ret_bool (by simp), held_alloc HB.out (by have := HB.out.size; omega)⟩
    · have he' : ((e : Int) == 0) = false := by simp; omega
      go_wp2_with fail
      go_ret
      exact ⟨ret_bool (by simp [he]), held_alloc HB.out (by have := HB.out.size; omega)⟩

theorem bare_tok {ts us : List Tok} (h : ts.map bare = us.map bare) {i : Nat} (hi : i < ts.length) : (tok us i).kind = (tok ts i).kind ∧ (tok us i).text = (tok ts i).text ∧ (tok us i).num = (tok ts i).num := by
  have hl : ts.length = us.length := by have := congrArg List.length h; simpa using this
  have e : (ts.map bare)[i]? = (us.map bare)[i]? := by rw [h]
  rw [List.getElem?_map, List.getElem?_map, tok_some hi, tok_some (by omega)] at e
  simp only [Option.map_some, bare, Tok.at_, Option.some.injEq, Tok.mk.injEq] at e
  exact ⟨e.1.symm, e.2.1.symm, e.2.2.1.symm⟩
theorem same_none (a b : Option Addr) (c d : Nat) (w : World) : Calls Tryd.prog 16 #[.slice a 0 c, .slice b 0 d] w fun e w' => e = .returned (.bool true) ∧ Below w.heap.size w w' := by
  go_enter Tryd.func16, Tryd.ntmps16
  go_wp2_with fail
  go_loopw [5] (fun t wr => t = .int .i64 0 ∧ Hid (wr = w)) (fun t _ => 0)
  case atStart => exact ⟨rfl, rfl⟩
  case round =>
    obtain ⟨rfl, hw⟩ := hrel
    obtain rfl := hw.out
    clear hw
    go_wp2_with fail
    go_ret
    exact ⟨rfl, Below.refl _ _⟩
set_option maxRecDepth 100000 in
set_option maxHeartbeats 4000000 in
theorem same_pos (b off b' off' n c d : Nat) (ts us : List Tok) (w : World) (hn : n ≤ 9223372036854775807) (hpos : 0 < n)
    (hc : ∀ i, i < n → w.cell? ⟨b, off + i * 4, none⟩ = some (.int .u8 ((tok ts i).kind : Int)) ∧ w.cell? ⟨b, off + i * 4 + 1, none⟩ = some (.string (bs (tok ts i).text)) ∧ w.cell? ⟨b, off + i * 4 + 2, none⟩ = some (.int .i64 (tok ts i).num))
    (hd : ∀ i, i < n → w.cell? ⟨b', off' + i * 4, none⟩ = some (.int .u8 ((tok ts i).kind : Int)) ∧ w.cell? ⟨b', off' + i * 4 + 1, none⟩ = some (.string (bs (tok ts i).text)) ∧ w.cell? ⟨b', off' + i * 4 + 2, none⟩ = some (.int .i64 (tok ts i).num)) :
    Calls Tryd.prog 16 #[.slice (some ⟨b, off, none⟩) n c, .slice (some ⟨b', off', none⟩) n d] w fun e w' => e = .returned (.bool true) ∧ Below w.heap.size w w' := by
  go_enter Tryd.func16, Tryd.ntmps16
  go_wp2_with fail
  go_loopw [5] (fun t wr => ∃ k : Nat, k ≤ n ∧ t = .int .i64 k ∧ Hid (∃ q, wr = w.drewN q)) (fun t _ => n - (intOf t).toNat)
  case atStart => exact ⟨0, Nat.zero_le _, rfl, ⟨0, rfl⟩⟩
  case round =>
    obtain ⟨k, hk, rfl, hw⟩ := hrel
    obtain ⟨q, rfl⟩ := hw.out
    by_cases hlt : k < n
    · obtain ⟨a0, a1, a2⟩ := hc _ hlt
      obtain ⟨b0, b1, b2⟩ := hd _ hlt
      obtain ⟨kk, hkk⟩ : ∃ kk, (tok ts k).kind = kk := ⟨_, rfl⟩
      obtain ⟨xx, hxx⟩ : ∃ xx, (tok ts k).text = xx := ⟨_, rfl⟩
      obtain ⟨nn, hnn⟩ : ∃ nn, (tok ts k).num = nn := ⟨_, rfl⟩
      rw [hkk] at a0 b0
      rw [hxx] at a1 b1
      rw [hnn] at a2 b2
      clear hc hd hw hkk hxx hnn
      go_wp2_with fail
      go_quiet (fail)
      go_wp2_with fail
      go_roundw
      case rel => exact ⟨k + 1, by omega, by go_num, ⟨_, rfl⟩⟩
      case measure => simp [intOf]; omega
    · obtain rfl : k = n := by omega
      clear hc hd hw
      go_wp2_with fail
      go_ret
      exact ⟨rfl, below_drewN w q _⟩
/-- Same: two lists that are the same but for the offsets. -/
theorem same_yes (w : World) (v u : Value) (ts us : List Tok) (h : SlK w v ts) (k : SlK w u us) (he : ts.map bare = us.map bare) : Calls Tryd.prog 16 #[v, u] w fun e w' => e = .returned (.bool true) ∧ Below w.heap.size w w' := by
  have hl : ts.length = us.length := by have := congrArg List.length he; simpa using this
  rcases Nat.eq_zero_or_pos ts.length with h0 | h0
  · obtain ⟨a, c, rfl, _⟩ := h.shape
    obtain ⟨b, d, rfl, _⟩ := k.shape
    rw [← hl, h0]
    exact same_none a b c d w
  · obtain ⟨b, off, c, rfl, h1, h2, _, hc⟩ := h.at_ h0
    obtain ⟨b', off', d, rfl, _, _, _, hd⟩ := k.at_ (by omega)
    rw [← hl]
    refine same_pos b off b' off' ts.length c d ts us w (by omega) h0 (fun i hi => ⟨(hc i hi).1, (hc i hi).2.1, (hc i hi).2.2.1⟩) (fun i hi => ?_)
    obtain ⟨q0, q1, q2⟩ := bare_tok he hi
    obtain ⟨d0, d1, d2, _⟩ := hd i (by omega)
    rw [q0] at d0
    rw [q1] at d1
    rw [q2] at d2
    exact ⟨d0, d1, d2⟩
theorem equal_none (a b : Option Addr) (c d : Nat) (w : World) : Calls Tryd.prog 12 #[.slice a 0 c, .slice b 0 d] w fun e w' => e = .returned (.bool true) ∧ Below w.heap.size w w' := by
  go_enter Tryd.func12, Tryd.ntmps12
  go_wp2_with fail
  refine (same_none a b c d _).mono ?_
  rintro e w1 ⟨rfl, hb⟩
  have HB := Lib.hid hb
  clear hb
  go_wp2_with fail
  go_loopw [5] (fun t wr => t = .int .i64 0 ∧ Hid (wr = w1)) (fun t _ => 0)
  case atStart => exact ⟨rfl, rfl⟩
  case round =>
    obtain ⟨rfl, hw⟩ := hrel
    obtain rfl := hw.out
    clear hw
    go_wp2_with fail
    go_ret
    exact ⟨rfl, HB.out⟩
set_option maxRecDepth 100000 in
set_option maxHeartbeats 4000000 in
theorem equal_pos (b off b' off' n c d : Nat) (ts : List Tok) (w : World) (hn : n ≤ 9223372036854775807) (hpos : 0 < n) (hlen : ts.length = n) (h : SlK w (.slice (some ⟨b, off, none⟩) n c) ts) (k : SlK w (.slice (some ⟨b', off', none⟩) n d) ts)
    (hc : ∀ W, Below w.heap.size w W → ∀ i, i < n → W.cell? ⟨b, off + i * 4 + 3, none⟩ = some (.int .i64 (tok ts i).off)) (hd : ∀ W, Below w.heap.size w W → ∀ i, i < n → W.cell? ⟨b', off' + i * 4 + 3, none⟩ = some (.int .i64 (tok ts i).off)) :
    Calls Tryd.prog 12 #[.slice (some ⟨b, off, none⟩) n c, .slice (some ⟨b', off', none⟩) n d] w fun e w' => e = .returned (.bool true) ∧ Below w.heap.size w w' := by
  have HC := Lib.hid hc
  have HD := Lib.hid hd
  have H := Lib.hid h
  have K := Lib.hid k
  clear hc hd h k hlen
  go_enter Tryd.func12, Tryd.ntmps12
  go_wp2_with fail
  refine (same_yes _ _ _ ts ts H.out K.out rfl).mono ?_
  rintro e w1 ⟨rfl, hb⟩
  have HB := Lib.hid hb
  clear hb
  go_wp2_with fail
  go_loopw [5] (fun t wr => ∃ k : Nat, k ≤ n ∧ t = .int .i64 k ∧ Hid (∃ q, wr = w1.drewN q)) (fun t _ => n - (intOf t).toNat)
  case atStart => exact ⟨0, Nat.zero_le _, rfl, ⟨0, rfl⟩⟩
  case round =>
    obtain ⟨k, hk, rfl, hw⟩ := hrel
    obtain ⟨q, rfl⟩ := hw.out
    by_cases hlt : k < n
    · have a0 := HC.out w1 HB.out k hlt
      have b0 := HD.out w1 HB.out k hlt
      obtain ⟨oo, hoo⟩ : ∃ oo, (tok ts k).off = oo := ⟨_, rfl⟩
      rw [hoo] at a0 b0
      clear hw hoo
      go_wp2_with fail
      go_quiet (fail)
      go_wp2_with fail
      go_roundw
      case rel => exact ⟨k + 1, by omega, by go_num, ⟨_, rfl⟩⟩
      case measure => simp [intOf]; omega
    · obtain rfl : k = n := by omega
      clear hw
      go_wp2_with fail
      go_ret
      exact ⟨rfl, HB.out.trans ((below_drewN w1 q _).mono HB.out.size)⟩
/-- Equal: two lists that are the same. -/
theorem equal_yes (w : World) (v u : Value) (ts : List Tok) (h : SlK w v ts) (k : SlK w u ts) : Calls Tryd.prog 12 #[v, u] w fun e w' => e = .returned (.bool true) ∧ Below w.heap.size w w' := by
  have H := h
  have K := k
  rcases Nat.eq_zero_or_pos ts.length with h0 | h0
  · obtain ⟨a, c, rfl, _⟩ := h.shape
    obtain ⟨b, d, rfl, _⟩ := k.shape
    rw [h0]
    exact equal_none a b c d w
  · obtain ⟨b, off, c, rfl, h1, h2, _, hc⟩ := h.at_ h0
    obtain ⟨b', off', d, rfl, _, _, _, hd⟩ := k.at_ h0
    exact equal_pos b off b' off' ts.length c d ts w (by omega) h0 rfl H K (fun W hb i hi => keep_cell hb (hc i hi).2.2.2) (fun W hb i hi => keep_cell hb (hd i hi).2.2.2)
end Go.Proofs.YtnifndolopnbfaaDoor

namespace Go.Proofs.YtnifndolopnbfaaDoor
open Go.RowKit

set_option maxRecDepth 100000 in
set_option maxHeartbeats 4000000 in
theorem rPrint_c (w : World) (v : Value) (ts : List Tok) (h : SlK w v ts) : Calls Tryd.prog 15 #[v] w fun e w' => e = .returned (.tuple #[.string (bs (printF ts).1), .int .i64 (((printF ts).2 : Nat) : Int)]) ∧ Below w.heap.size w w' := by
  have H := Lib.hid h
  obtain ⟨a, c, rfl, h1, h2, _⟩ := h.shape
  clear h
  have hcat : bs ([] : List UInt8) = (⟨#[]⟩ : ByteArray) := rfl
  go_enter Tryd.func15, Tryd.ntmps15
  go_wp2_with fail
  go_loopw [4] (fun t wr => ∃ k : Nat, k ≤ ts.length ∧ t = .int .i64 k ∧ Hid (Below w.heap.size w wr) ∧ Hid (∀ j (h : j < ts.length), j < k → rightT ts[j])) (fun t _ => ts.length - (intOf t).toNat)
  case atStart => exact ⟨0, Nat.zero_le _, rfl, Below.refl _ _, fun j _ h => by omega⟩
  case round =>
    obtain ⟨k, hk, rfl, hb, hr⟩ := hrel
    by_cases hlt : k < ts.length
    · obtain ⟨b, off, cap, e, _, _, hblt, hc⟩ := (H.out.after hb.out).at_ (by omega)
      injection e with e1 _ e3
      subst e1
      subst e3
      obtain ⟨a0, a1, a2, a3⟩ := hc k hlt
      have hok := H.out.ok hlt
      have htk := tok_get hlt
      by_cases hrt : rightT (tok ts k)
      · have HRT : Hid (rightT ts[k]) := by rw [htk] at hrt; exact hrt
        have hdec : Hid (decide (rightT (tok ts k)) = true) := decide_eq_true hrt
        have hlen : (tok ts k).text.length ≤ 9223372036854775807 := hok.2.2.2
        obtain ⟨⟨kk, xx, nn, oo⟩, ht⟩ : ∃ t, tok ts k = t := ⟨_, rfl⟩
        rw [ht] at a0 a1 a2 a3 hdec hlen
        clear hc hok htk hrt ht
        go_wp2_with fail
        refine (rRight_c ⟨kk, xx, nn, oo⟩ wr hlen).mono ?_
        rw [hdec.out]
        rintro e w3 ⟨rfl, hb3⟩
        have HB3 := Lib.hid (hb.out.trans (hb3.mono hb.out.size))
        clear hb3 a0 a1 a2 a3 hblt
        go_wp2_with fail
        go_roundw
        case rel =>
          refine ⟨k + 1, by omega, by go_num, HB3.out, fun j h hj => ?_⟩
          rcases Nat.lt_or_ge j k with h1 | h1
          · exact hr.out j h h1
          · obtain rfl : j = k := by omega
            exact HRT.out
        case measure => simp [intOf]; omega
      · have hdec : Hid (decide (rightT (tok ts k)) = false) := decide_eq_false hrt
        have hfin : Hid (printF ts = ([], 1)) := printF_bad (List.getElem_mem hlt) (by rw [htk] at hrt; exact hrt)
        have hlen : (tok ts k).text.length ≤ 9223372036854775807 := hok.2.2.2
        obtain ⟨⟨kk, xx, nn, oo⟩, ht⟩ : ∃ t, tok ts k = t := ⟨_, rfl⟩
        rw [ht] at a0 a1 a2 a3 hdec hlen
        clear hc hok htk hrt ht
        go_wp2_with fail
        refine (rRight_c ⟨kk, xx, nn, oo⟩ wr hlen).mono ?_
        rw [hdec.out]
        rintro e w3 ⟨rfl, hb3⟩
        have HB3 := Lib.hid (hb.out.trans (hb3.mono hb.out.size))
        clear hb3 a0 a1 a2 a3 hblt
        go_wp2_with fail
        go_ret2
        rw [hfin.out]
        exact ⟨rfl, HB3.out⟩
    · obtain rfl : k = ts.length := by omega
      have hall : ∀ t ∈ ts, rightT t := fun t ht => by
        obtain ⟨j, hj, rfl⟩ := List.getElem_of_mem ht
        exact hr.out j hj hj
      have HALL := Lib.hid hall
      have hxl := txts_len ts
      obtain ⟨xs, hxs⟩ : ∃ xs, txts ts = xs := ⟨_, rfl⟩
      rw [hxs] at hxl
      have HXS := Lib.hid hxs
      have HXL := Lib.hid hxl
      have HT : Hid (∀ j (h : j < xs.length), xs[j].length ≤ 12) := by
        intro j hj
        subst hxs
        have := rightT_len (hall _ (List.getElem_mem (by rw [hxl] at hj; exact hj)))
        simpa [txts] using this
      clear hall hxs hxl hr
      go_wp2_with fail
      go_loopw [5, 6] (fun s t wx => ∃ k : Nat, k ≤ ts.length ∧ t = .int .i64 k ∧ ∃ y : List UInt8, s = .string (bs y) ∧ y.length ≤ 5000 ∧ Hid (joinL [32] (xs.take k) = y) ∧ Hid (wx = wr)) (fun _ t _ => ts.length - (intOf t).toNat)
      case atStart => exact ⟨0, Nat.zero_le _, rfl, [], rfl, by simp, by show _ = _; rw [joinL_take_zero], rfl⟩
      case round =>
        obtain ⟨k, hk, rfl, y, rfl, hy, hj, hw⟩ := hrel
        obtain rfl := hw.out
        have hsy : (bs y).size = y.length := bs_size y
        clear hw
        by_cases hlt : k < ts.length
        · by_cases hyl : y.length ≤ 4096
          · obtain ⟨b, off, cap, e, _, _, hblt, hc⟩ := (H.out.after hb.out).at_ (by omega)
            injection e with e1 _ e3
            subst e1
            subst e3
            obtain ⟨_, a1, _, _⟩ := hc k hlt
            have hkx : k < xs.length := by rw [HXL.out]; exact hlt
            have hxk : (tok ts k).text = xs[k] := by
              have e := HXS.out
              subst e
              rw [tok_get hlt]; simp [txts]
            have hx12 := HT.out k hkx
            obtain ⟨x, hx⟩ : ∃ x, xs[k] = x := ⟨_, rfl⟩
            rw [hxk, hx] at a1
            rw [hx] at hx12
            have hsx : (bs x).size = x.length := bs_size x
            rcases Nat.eq_zero_or_pos k with h0 | h0
            · have hy0 : y = [] := by rw [← hj.out, h0]; rfl
              have hz : Hid (joinL [32] (xs.take (k + 1)) = x) := by show _ = _; rw [h0, joinL_take_one _ _ (by omega)]; rw [← hx]; congr 1; exact h0.symm
              subst hy0
              have happ : (bs []) ++ (bs x) = bs x := by rw [append_bs]; rfl
              clear hj hc hkx hxk hx
              subst h0
              go_wp2_with fail
              go_roundw
              case rel => exact ⟨1, by omega, rfl, x, congrArg Value.string happ, by omega, hz.out, trivial⟩
              case measure => simp [intOf]; omega
            · have hz : Hid (joinL [32] (xs.take (k + 1)) = y ++ [32] ++ x) := by show _ = _; rw [joinL_take_next _ _ _ hkx h0, hj.out, hx]
              have happ1 : (bs y) ++ (bs [32]) = bs (y ++ [32]) := append_bs _ _
              have happ2 : (bs (y ++ [32])) ++ (bs x) = bs (y ++ [32] ++ x) := append_bs _ _
              have hs1 : (bs (y ++ [32])).size = y.length + 1 := by rw [bs_size]; simp
              clear hj hc hkx hxk hx
              go_wp2_with fail
              go_roundw
              case rel => exact ⟨k + 1, by omega, by go_num, y ++ [32] ++ x, congrArg Value.string (by rw [← happ2, ← happ1]; rfl), by simp; omega, hz.out, trivial⟩
              case measure => simp [intOf]; omega
          · have hfin : Hid (printF ts = ([], 3)) := by
              refine printF_long HALL.out (Nat.lt_of_lt_of_le (Nat.lt_of_not_le hyl) ?_)
              have := joinL_take_le [32] xs k
              rw [hj.out] at this
              have e := HXS.out
              unfold txts at e
              rw [e]; exact this
            clear hj
            go_wp2_with fail
            go_ret2
            rw [hfin.out]
            exact ⟨rfl, hb.out⟩
        · obtain rfl : k = ts.length := by omega
          have hjoin : joinL [32] (ts.map Tok.text) = y := by
            have e := HXS.out
            unfold txts at e
            rw [e, ← hj.out, List.take_of_length_le (Nat.le_of_eq HXL.out)]
          by_cases hyl : 4096 < y.length
          · have hfin : Hid (printF ts = ([], 3)) := printF_long HALL.out (by rw [hjoin]; exact hyl)
            clear hj hjoin
            go_wp2_with fail
            go_ret2
            rw [hfin.out]
            exact ⟨rfl, hb.out⟩
          · have hfin : Hid (printF ts = (y, 0)) := by
              have := printF_ok HALL.out (by rw [hjoin]; exact hyl)
              rw [hjoin] at this; exact this
            clear hj hjoin
            go_wp2_with fail
            go_ret2
            rw [hfin.out]
            exact ⟨rfl, hb.out⟩
end Go.Proofs.YtnifndolopnbfaaDoor

namespace Go.Proofs.YtnifndolopnbfaaDoor
open Go.RowKit

/-- A token that is read, with literal cells. -/
theorem SlK.lit {w : World} {v : Value} {ts : List Tok} (h : SlK w v ts) (hp : 0 < ts.length) : ∃ b off cap, v = .slice (some ⟨b, off, none⟩) ts.length cap ∧ ts.length ≤ cap ∧ cap ≤ 9223372036854775807 ∧ b < w.heap.size ∧ ∀ W, Below w.heap.size w W → ∀ i t, ts[i]? = some t → W.cell? ⟨b, off + i * 4, none⟩ = some (.int .u8 (t.kind : Int)) ∧
    W.cell? ⟨b, off + i * 4 + 1, none⟩ = some (.string (bs t.text)) ∧ W.cell? ⟨b, off + i * 4 + 2, none⟩ = some (.int .i64 t.num) ∧ W.cell? ⟨b, off + i * 4 + 3, none⟩ = some (.int .i64 t.off) := by
  obtain ⟨b, off, cap, e, h1, h2, h3, hc⟩ := h.at_ hp
  refine ⟨b, off, cap, e, h1, h2, h3, fun W hb i t ht => ?_⟩
  have hi : i < ts.length := (List.getElem?_eq_some_iff.1 ht).1
  rw [tok_some hi] at ht
  injection ht with ht
  obtain ⟨c0, c1, c2, c3⟩ := hc i hi
  rw [ht] at c0 c1 c2 c3
  exact ⟨keep_cell hb c0, keep_cell hb c1, keep_cell hb c2, keep_cell hb c3⟩
theorem toks_awake : toksF [99, 111, 114, 101, 115, 32, 50, 59, 35, 32, 120] = ([⟨1, [99, 111, 114, 101, 115], 0, 0⟩, ⟨2, [50], 2, 6⟩, ⟨3, [59], 0, 7⟩], 0, 0) := by kernel_rfl
theorem print_awake : printF [⟨1, [99, 111, 114, 101, 115], 0, 0⟩, ⟨2, [50], 2, 6⟩, ⟨3, [59], 0, 7⟩] = ([99, 111, 114, 101, 115, 32, 50, 32, 59], 0) := by kernel_rfl

set_option maxRecDepth 100000 in
set_option maxHeartbeats 4000000 in
theorem awake_c (w : World) : Calls Tryd.prog 13 #[] w fun e w' => e = .returned (.bool true) ∧ Below w.heap.size w w' := by
  go_enter Tryd.func13, Tryd.ntmps13
  go_wp2_with fail
  refine (Tokens_c _ [99, 111, 114, 101, 115, 32, 50, 59, 35, 32, 120] (by decide)).mono ?_
  rw [toks_awake]
  rintro e w1 ⟨v, rfl, hv, hb⟩
  have HV := Lib.hid hv
  have HB := Lib.hid hb
  obtain ⟨b, off, cap, rfl, h1, h2, h3, hc⟩ := hv.lit (by decide)
  simp only at h1 h2 h3 hc
  obtain ⟨a0, a1, a2, a3⟩ := hc w1 (Below.refl _ _) 0 _ rfl
  obtain ⟨b0, b1, b2, b3⟩ := hc w1 (Below.refl _ _) 1 _ rfl
  obtain ⟨c0, c1, c2, c3⟩ := hc w1 (Below.refl _ _) 2 _ rfl
  simp only [Nat.zero_mul, Nat.add_zero, Nat.one_mul, Nat.reduceMul, Nat.add_assoc, Nat.reduceAdd] at a0 a1 a2 a3 b0 b1 b2 b3 c0 c1 c2 c3
  have q1 := list_ba [99, 111, 114, 101, 115]
  have q2 := list_ba [50]
  have q3 := list_ba [99, 111, 114, 101, 115, 32, 50, 32, 59]
  clear hc hv hb
  go_wp2_with fail
  refine (Print_c _ _ _ HV.out (by decide)).mono ?_
  rw [print_awake]
  rintro e w2 ⟨rfl, hb2⟩
  have HB2 := Lib.hid (HB.out.trans (hb2.mono HB.out.size))
  clear hb2
  go_wp2_with fail
  go_ret
  exact ⟨rfl, HB2.out⟩
set_option maxRecDepth 100000 in
set_option maxHeartbeats 4000000 in
theorem lidle_c (l : List UInt8) (hl : l.length ≤ 9223372036854775807) (w : World) : Calls Tryd.prog 17 #[.string (bs l)] w fun e w' => e = .returned (.bool (idleQ false l)) ∧ w = w' := by
  have hs : (bs l).size = l.length := bs_size l
  obtain ⟨Q, hQ⟩ : ∃ Q, idleQ false l = Q := ⟨_, rfl⟩
  rw [hQ]
  have HQ : Hid (idleQ false (l.drop 0) = Q) := hQ
  clear hQ
  go_enter Tryd.func17, Tryd.ntmps17
  go_wp2_with fail
  go_loop [3, 4] (fun r t => ∃ (k : Nat) (f : Bool), k ≤ l.length ∧ t = .int .i64 (k : Int) ∧ r = .bool f ∧ Hid (idleQ f (l.drop k) = Q)) (fun _ t => l.length - (intOf t).toNat)
  case atStart => exact ⟨0, false, Nat.zero_le _, rfl, rfl, HQ.out⟩
  case round =>
    obtain ⟨k, f, hk, rfl, rfl, hq⟩ := hrel
    clear HQ
    by_cases hlt : k < l.length
    · obtain ⟨q, hcq⟩ : ∃ q, ((bs l)[k]'hlt).toNat = q := ⟨_, rfl⟩
      have hq2 := hq.out
      rw [drop_next hlt, idleQ] at hq2
      have hcq' : l[k].toNat = q := hcq
      rw [hcq'] at hq2
      clear hq hcq'
      by_cases h10 : q = 10
      · have HN : Hid (idleQ false (l.drop (k + 1)) = Q) := by rw [if_pos h10] at hq2; exact hq2
        clear hq2
        go_wp2_with fail
        all_goals first
          | (exfalso; simp only [beq_iff_eq] at *; omega)
          | (go_round
             case rel => exact ⟨k + 1, false, by omega, by go_num, rfl, HN.out⟩
             case measure => simp [intOf]; omega)
      · rw [if_neg h10] at hq2
        by_cases h35 : f = true ∨ q = 35
        · have HN : Hid (idleQ true (l.drop (k + 1)) = Q) := by rw [if_pos h35] at hq2; exact hq2
          clear hq2
          cases f
          · have h35' : q = 35 := by simpa using h35
            clear h35
            go_wp2_with fail
            all_goals first
              | (exfalso; simp only [beq_iff_eq, beq_eq_false_iff_ne, ne_eq] at *; omega)
              | (go_round
                 case rel => exact ⟨k + 1, true, by omega, by go_num, rfl, HN.out⟩
                 case measure => simp [intOf]; omega)
          · clear h35
            go_wp2_with fail
            all_goals first
              | (exfalso; simp only [beq_iff_eq, beq_eq_false_iff_ne, ne_eq] at *; omega)
              | (go_round
                 case rel => exact ⟨k + 1, true, by omega, by go_num, rfl, HN.out⟩
                 case measure => simp [intOf]; omega)
        · rw [if_neg h35] at hq2
          have hf : f = false := by cases f <;> simp_all
          have h35' : ¬ q = 35 := fun e => h35 (.inr e)
          subst hf
          clear h35
          by_cases hb : q = 32 ∨ q = 9 ∨ q = 13
          · have HN : Hid (idleQ false (l.drop (k + 1)) = Q) := by rw [if_pos hb] at hq2; exact hq2
            clear hq2
            go_wp2_with fail
            all_goals first
              | (exfalso; simp only [beq_eq_false_iff_ne, bne_iff_ne, bne_eq_false_iff_eq, ne_eq] at *; omega)
              | (go_round
                 case rel => exact ⟨k + 1, false, by omega, by go_num, rfl, HN.out⟩
                 case measure => simp [intOf]; omega)
          · have HN : Hid (false = Q) := by rw [if_neg hb] at hq2; exact hq2
            clear hq2
            go_wp2_with fail
            all_goals first
              | (exfalso; simp only [beq_eq_false_iff_ne, bne_iff_ne, bne_eq_false_iff_eq, ne_eq] at *; omega)
              | (go_ret
                 exact ⟨ret_bool HN.out, rfl⟩)

    · obtain rfl : k = l.length := by omega
      have hz : Hid (Q = true) := by have := hq.out; rw [List.drop_length] at this; cases f <;> exact this.symm
      go_wp2_with fail
      go_ret
      exact ⟨ret_bool hz.out.symm, rfl⟩
end Go.Proofs.YtnifndolopnbfaaDoor

namespace Go.Proofs.YtnifndolopnbfaaDoor

theorem items_off : ∀ o l, ∀ x ∈ items o l, 0 ≤ x.1.off ∧ x.1.off ≤ ((o + l.length : Nat) : Int) := by
  refine items_ind ?_ ?_ ?_
  · intro o l h x hx; rw [items_nil h] at hx; simp at hx
  · intro o l c m h he x hx
    rw [items_bad h he] at hx
    obtain rfl := List.mem_singleton.1 hx
    have := idleN_le l
    exact ⟨by simp only [Tok.at_]; omega, by simp only [Tok.at_]; omega⟩
  · intro o l c m h he ih x hx
    have h1 := idleN_add l
    rw [h] at h1
    obtain ⟨a1, a2, _⟩ := fst1_text he
    rw [items_cons h he] at hx
    rcases List.mem_cons.1 hx with rfl | hx
    · exact ⟨by simp only [Tok.at_]; omega, by simp only [Tok.at_]; omega⟩
    · have := ih x hx
      rw [List.length_drop] at this
      omega
theorem fin_mem : ∀ (l : List (Tok × Nat)) (acc : List Tok), (fin l acc).2.2 ≠ 0 → ∃ x ∈ l, (fin l acc).2.1 = x.1.off
  | [], acc, h => by simp [fin] at h
  | (t, e) :: r, acc, h => by
    by_cases h0 : e = 0
    · rw [fin, if_pos h0] at h ⊢
      obtain ⟨x, hx, e2⟩ := fin_mem r _ h
      exact ⟨x, by simp [hx], e2⟩
    · rw [fin, if_neg h0]
      exact ⟨(t, e), by simp, rfl⟩
/-- Where Tokens fails: no tokens, and an offset within the text or at the limit. -/
theorem toks_err {l : List UInt8} (h : (toksF l).2.2 ≠ 0) : (toksF l).1 = [] ∧ 0 ≤ (toksF l).2.1 ∧ (toksF l).2.1 ≤ 4096 := by
  by_cases hl : 4096 < l.length
  · rw [toksF_long hl]; exact ⟨rfl, by decide, by decide⟩
  · rw [toksF_ok hl] at h ⊢
    obtain ⟨x, hx, e⟩ := fin_mem _ _ h
    have := items_off 0 l x hx
    exact ⟨(fin_err h).1, by rw [e]; omega, by rw [e]; omega⟩
/-- Where it succeeds. -/
theorem toks_good {l : List UInt8} (h : (toksF l).2.2 = 0) : l.length ≤ 4096 ∧ okI (items 0 l) ∧ toksF l = ((items 0 l).map Prod.fst, 0, 0) := by
  by_cases hl : 4096 < l.length
  · rw [toksF_long hl] at h; simp at h
  · rw [toksF_ok hl] at h ⊢
    have hok : okI (items 0 l) := by
      refine Decidable.byContradiction (fun hn => ?_)
      obtain ⟨o, e, he, h2⟩ := fin_bad _ hn
      have := h2 [] []
      rw [List.append_nil] at this
      rw [this] at h
      exact he h
    exact ⟨by omega, hok, by rw [fin_ok _ _ hok]; rfl⟩
theorem toks_right {l : List UInt8} (h : (toksF l).2.2 = 0) : ∀ t ∈ (toksF l).1, rightT t := by
  obtain ⟨_, hok, e⟩ := toks_good h
  rw [e]
  intro t ht
  obtain ⟨x, hx, rfl⟩ := List.mem_map.1 ht
  exact items_right 0 l x hx (hok x hx)
theorem toks_len (l : List UInt8) : (toksF l).1.length ≤ 4096 := by
  by_cases h : (toksF l).2.2 = 0
  · obtain ⟨h1, _, e⟩ := toks_good h
    rw [e]
    have : ∀ o l, (items o l).length ≤ l.length := by
      refine items_ind ?_ ?_ ?_
      · intro o l h; rw [items_nil h]; simp
      · intro o l c m h he
        have := skp_len false l
        rw [h] at this
        rw [items_bad h he]; simp at this ⊢; omega
      · intro o l c m h he ih
        have := skp_len false l
        rw [h] at this
        obtain ⟨a1, a2, _⟩ := fst1_text he
        rw [List.length_drop] at ih
        rw [items_cons h he, List.length_cons]; omega
    have := this 0 l
    rw [List.length_map]; omega
  · rw [(toks_err h).1]; simp
/-- Right tokens are printed, or their text is too long. -/
theorem print_right {ts : List Tok} (h : ∀ t ∈ ts, rightT t) : printF ts = ([], 3) ∨ (printF ts = (joinL [32] (ts.map Tok.text), 0) ∧ (joinL [32] (ts.map Tok.text)).length ≤ 4096) := by
  by_cases hl : 4096 < (joinL [32] (ts.map Tok.text)).length
  · exact .inl (printF_long h hl)
  · exact .inr ⟨printF_ok h hl, by omega⟩
theorem toks_of_items {y : List UInt8} {ts : List Tok} (hl : y.length ≤ 4096) (h : bareI (items 0 y) = ts.map fun t => (bare t, 0)) : ∃ us, toksF y = (us, 0, 0) ∧ ts.map bare = us.map bare := by
  obtain ⟨hok, hb⟩ := okI_bare h
  refine ⟨(items 0 y).map Prod.fst, ?_, hb.symm⟩
  rw [toksF_ok (by omega), fin_ok _ _ hok]; rfl
/-- What is printed is read back. -/
theorem round_back {ts : List Tok} (h : ∀ t ∈ ts, rightT t) (hl : (joinL [32] (ts.map Tok.text)).length ≤ 4096) : ∃ us, toksF (joinL [32] (ts.map Tok.text)) = (us, 0, 0) ∧ ts.map bare = us.map bare := by
  refine toks_of_items hl ?_
  have := items_join [32] (by simp) (by decide) [] rfl (fun b z h => by cases h) ts 0 h
  rwa [List.append_nil] at this
end Go.Proofs.YtnifndolopnbfaaDoor

namespace Go.Proofs.YtnifndolopnbfaaDoor
open Go.ChangeShapes Go.WideShapes Go.ChangeAt Go.RowKit

theorem law_own : ownKnob Tryd.prog.godebug = none := by kernel_rfl
theorem law_laid : laidOutB Tryd.prog = true := by kernel_rfl

theorem trodAll_stays {H : Type} {enc : TypeId × Value → H} {P : Program} (hl : laidOutB P = true) {W W' : World} {sp' : Nat → Bool} : ∀ {ts : List TypeId} {vs : List Value} {ds : List (DataW H)} {ps : List MemPlace},
    (∀ t ∈ ts, P.readableRec t = true ∧ t < P.types.size) → DataW.TrodAll enc P W 0 (fun _ => true) true ts vs ds ps → (∀ p ∈ ps, W.sameAt W' p) → (∀ p ∈ ps, sp' p.block = true) → DataW.TrodAll enc P W' 0 sp' true ts vs ds ps
  | [], vs, ds, ps, _, h, _, _ => by
    obtain ⟨rfl, rfl, rfl⟩ := trodAll_nil h
    exact trodAll_mk0
  | t :: ts, vs, ds, ps, hr, h, h1, h2 => by
    obtain ⟨v, vs', d, ds', p, q, rfl, rfl, rfl, hv, hrest⟩ := trodAll_cons h
    obtain ⟨r1, r2⟩ := hr t (List.mem_cons.2 (.inl rfl))
    exact trodAll_cons_mk (WideElems.Trod_stays hl r1 r2 hv (fun x hx => h1 x (List.mem_append_left _ hx)) (fun x hx => h2 x (List.mem_append_left _ hx)))
      (trodAll_stays hl (fun t ht => hr t (List.mem_cons.2 (.inr ht))) hrest (fun x hx => h1 x (List.mem_append_right _ hx)) (fun x hx => h2 x (List.mem_append_right _ hx)))

theorem law_types {P : Program} {ts : List TypeId} (h : (ts.all fun t => P.readableRec t && decide (t < P.types.size)) = true) : ∀ t ∈ ts, P.readableRec t = true ∧ t < P.types.size := by
  intro t ht
  have := List.all_eq_true.1 h t ht
  simpa using this

/-- The end of a law's proof. -/
theorem law_post {H : Type} {enc : TypeId × Value → H} {P : Program} {f : Func} {s : ChangeSpec} {W W' : World} {args : Array Value} {ds gs : List (DataW H)} {before : List MemPlace} {tb : TypeId}
    (hl : laidOutB P = true) (hts : ∀ t ∈ f.params.toList, P.readableRec t = true ∧ t < P.types.size) (hvars : s.vars = []) (hres : f.resultTypes = #[tb]) (htb : P.underlying tb = some .bool)
    (hspec : s.fn H ds = { results := [.lit (.bool true)], args := ds, vars := [] }) (hW : DataW.Whole enc P f.params.toList s.vars false W args.toList ds gs before) (hb : Below W.heap.size W W') :
    s.post enc P f false true false false W args (.bool true) W' := by
  have hW' := hW
  have hlt : ∀ p ∈ before, p.block < W.heap.size := fun p hp => hW.lt p hp
  obtain ⟨p, q, hA, hV, rfl, _, _⟩ := hW
  rw [hvars] at hV
  obtain ⟨rfl, rfl⟩ := trodVars_none hV
  have hsp : s.fn H (ds ++ []) = { results := [.lit (.bool true)], args := ds, vars := [] } := by rw [List.append_nil]; exact hspec
  refine ⟨ds, [], p ++ [], [], p, [], hW', ?_, ?_, ?_, hb.frame _, fun h => by cases h⟩
  · rw [hsp, hres]
    exact trodAll_cons_mk (shut_bool htb true) trodAll_mk0
  · rw [hsp]
    exact trodAll_stays hl hts hA (fun x hx => hb.same (hlt x (by simpa using hx))) (fun x hx => by simpa using hlt x (by simpa using hx))
  · rw [hsp, hvars]; rfl
end Go.Proofs.YtnifndolopnbfaaDoor

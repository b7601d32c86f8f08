/- Lexis, plain: what Tokens returns where it succeeds and where it fails; what comes back of a printed text. No program in it.
   Walks of package syntax: Parse.
   Walks of package syntax: Same.
   Walks of package syntax: Same.
   Walks of package syntax: the parts of a clause's text. -/
import Derived.Test.YtganlldidjbpiaaGreatDoorK15
import Derived.Test.YtganlldidjbpiaaGreatDoorK12
set_option linter.unusedVariables false
namespace Go.Proofs.YtganlldidjbpiaaGreatDoor

theorem items_off : ∀ o l, ∀ x ∈ items o l, 0 ≤ x.1.off ∧ x.1.off ≤ ((o + l.length : Nat) : Int) := by
  refine items_ind ?_ ?_ ?_
  · intro o l h x hx; rw [items_nil h] at hx; simp at hx
  · intro o l c m h he x hx
    rw [items_bad h he] at hx
    obtain rfl := List.mem_singleton.1 hx
    have := idleN_le l
    exact ⟨by simp only [Tok.at_]; omega, by simp only [Tok.at_]; omega⟩
  · intro o l c m h he ih x hx
    have h1 := idleN_add l
    rw [h] at h1
    obtain ⟨a1, a2, _⟩ := fst1_text he
    rw [items_cons h he] at hx
    rcases List.mem_cons.1 hx with rfl | hx
    · exact ⟨by simp only [Tok.at_]; omega, by simp only [Tok.at_]; omega⟩
    · have := ih x hx
      rw [List.length_drop] at this
      omega
theorem fin_mem : ∀ (l : List (Tok × Nat)) (acc : List Tok), (fin l acc).2.2 ≠ 0 → ∃ x ∈ l, (fin l acc).2.1 = x.1.off
  | [], acc, h => by simp [fin] at h
  | (t, e) :: r, acc, h => by
    by_cases h0 : e = 0
    · rw [fin, if_pos h0] at h ⊢
      obtain ⟨x, hx, e2⟩ := fin_mem r _ h
      exact ⟨x, by simp [hx], e2⟩
    · rw [fin, if_neg h0]
      exact ⟨(t, e), by simp, rfl⟩
/-- Where Tokens fails: no tokens, and an offset within the text or at the limit. -/
theorem toks_err {l : List UInt8} (h : (toksF l).2.2 ≠ 0) : (toksF l).1 = [] ∧ 0 ≤ (toksF l).2.1 ∧ (toksF l).2.1 ≤ 4096 := by
  by_cases hl : 4096 < l.length
  · rw [toksF_long hl]; exact ⟨rfl, by decide, by decide⟩
  · rw [toksF_ok hl] at h ⊢
    obtain ⟨x, hx, e⟩ := fin_mem _ _ h
    have := items_off 0 l x hx
    exact ⟨(fin_err h).1, by rw [e]; omega, by rw [e]; omega⟩
/-- Where it succeeds. -/
theorem toks_good {l : List UInt8} (h : (toksF l).2.2 = 0) : l.length ≤ 4096 ∧ okI (items 0 l) ∧ toksF l = ((items 0 l).map Prod.fst, 0, 0) := by
  by_cases hl : 4096 < l.length
  · rw [toksF_long hl] at h; simp at h
  · rw [toksF_ok hl] at h ⊢
    have hok : okI (items 0 l) := by
      refine Decidable.byContradiction (fun hn => ?_)
      obtain ⟨o, e, he, h2⟩ := fin_bad _ hn
      have := h2 [] []
      rw [List.append_nil] at this
      rw [this] at h
      exact he h
    exact ⟨by omega, hok, by rw [fin_ok _ _ hok]; rfl⟩
theorem toks_right {l : List UInt8} (h : (toksF l).2.2 = 0) : ∀ t ∈ (toksF l).1, rightT t := by
  obtain ⟨_, hok, e⟩ := toks_good h
  rw [e]
  intro t ht
  obtain ⟨x, hx, rfl⟩ := List.mem_map.1 ht
  exact items_right 0 l x hx (hok x hx)
theorem toks_len (l : List UInt8) : (toksF l).1.length ≤ 4096 := by
  by_cases h : (toksF l).2.2 = 0
  · obtain ⟨h1, _, e⟩ := toks_good h
    rw [e]
    have : ∀ o l, (items o l).length ≤ l.length := by
      refine items_ind ?_ ?_ ?_
      · intro o l h; rw [items_nil h]; simp
      · intro o l c m h he
        have := skp_len false l
        rw [h] at this
        rw [items_bad h he]; simp at this ⊢; omega
      · intro o l c m h he ih
        have := skp_len false l
        rw [h] at this
        obtain ⟨a1, a2, _⟩ := fst1_text he
        rw [List.length_drop] at ih
        rw [items_cons h he, List.length_cons]; omega
    have := this 0 l
    rw [List.length_map]; omega
  · rw [(toks_err h).1]; simp
/-- Right tokens are printed, or their text is too long. -/
theorem print_right {ts : List Tok} (h : ∀ t ∈ ts, rightT t) : printF ts = ([], 3) ∨ (printF ts = (joinL [32] (ts.map Tok.text), 0) ∧ (joinL [32] (ts.map Tok.text)).length ≤ 4096) := by
  by_cases hl : 4096 < (joinL [32] (ts.map Tok.text)).length
  · exact .inl (printF_long h hl)
  · exact .inr ⟨printF_ok h hl, by omega⟩
theorem toks_of_items {y : List UInt8} {ts : List Tok} (hl : y.length ≤ 4096) (h : bareI (items 0 y) = ts.map fun t => (bare t, 0)) : ∃ us, toksF y = (us, 0, 0) ∧ ts.map bare = us.map bare := by
  obtain ⟨hok, hb⟩ := okI_bare h
  refine ⟨(items 0 y).map Prod.fst, ?_, hb.symm⟩
  rw [toksF_ok (by omega), fin_ok _ _ hok]; rfl
/-- What is printed is read back. -/
theorem round_back {ts : List Tok} (h : ∀ t ∈ ts, rightT t) (hl : (joinL [32] (ts.map Tok.text)).length ≤ 4096) : ∃ us, toksF (joinL [32] (ts.map Tok.text)) = (us, 0, 0) ∧ ts.map bare = us.map bare := by
  refine toks_of_items hl ?_
  have := items_join [32] (by simp) (by decide) [] rfl (fun b z h => by cases h) ts 0 h
  rwa [List.append_nil] at this
end Go.Proofs.YtganlldidjbpiaaGreatDoor

namespace Go.Proofs.YtganlldidjbpiaaGreatDoor
open Go.RowKit Go.Shelf

/-- The result is clauses, an offset and an error; nothing that was there has turned. -/
theorem hB_new {w w2 w3 : World} {p : Nat} (h : Below w.heap.size w w2) (hf : Fx (fun b => b = p) w2 w3) (hp : w.heap.size ≤ p) : Below w.heap.size w w3 :=
  ⟨hf.os.trans h.os, hf.tape.trans h.tape, hf.output.trans h.output, Nat.le_trans h.size hf.size, fun b hb => (hf.block b (Nat.lt_of_lt_of_le hb h.size) (fun e => by omega)).trans (h.block b hb)⟩
def RetP (w : World) (r : List Cl × Int × Nat) (e : Ending) (w' : World) : Prop := ∃ v, e = .returned (.tuple #[v, .int .i64 r.2.1, .int .i64 ((r.2.2 : Nat) : Int)]) ∧ SlC (fun b => w.heap.size ≤ b) w' v r.1 ∧ Below w.heap.size w w'
theorem run_fieldF (w : World) (o : Int) : Sem.run Tryz.prog (Instr.field 49 (.agg #[.int .i64 o]) 0) w = .ok (.int .i64 o) w := by kernel_rfl
attribute [local go_sem ↓] run_fieldF
set_option maxRecDepth 100000 in
set_option maxHeartbeats 4000000 in
theorem Parse_c (N : Nat) (w : World) (s : List UInt8) (hl : s.length ≤ 9223372036854775807) (hN : N ≤ w.heap.size) (he : Wds N w) : Calls Tryz.prog 10 #[.string (bs s)] w (RetP w (parseF s)) := by
  have HE := Lib.hid he
  have hsz : (bs s).size = s.length := bs_size s
  have htl := toks_len s
  obtain ⟨y, hy⟩ : ∃ y, parseF s = y := ⟨_, rfl⟩
  rw [hy]
  have HY := Lib.hid hy
  clear hy he
  go_enter Tryz.func10, Tryz.ntmps10
  go_wp2_with fail
  refine (Tokens_c w s hl).mono ?_
  rintro e w1 ⟨v, rfl, hk, hb⟩
  rcases parse_cases s with ⟨o, e, he, ht, hp⟩ | ⟨u, ht, r, ha, hp⟩ | ⟨u, ht, cs, ha, hp⟩
  · rw [ht] at hk ⊢
    have HB := Lib.hid hb
    have HR : Hid (y = ([], o, e)) := by show _ = _; rw [← HY.out, hp]
    obtain ⟨a, c, rfl, _, _, _⟩ := hk.shape
    have q0 : (((e : Nat) : Int) != 0) = true := by simp; omega
    clear hb hp ht hk HY htl
    go_wp2_with fail
    go_ret3
    rw [HR.out]
    exact ⟨_, rfl, SlC.nil _ _, HB.out⟩
  · rw [ht] at hk htl ⊢
    have HR : Hid (y = ([], offE s.length r, 4)) := by show _ = _; rw [← HY.out, hp]
    have hk2 := hk.slT
    obtain ⟨a, c, rfl, _, _, _⟩ := hk.shape
    obtain ⟨w2, hw2⟩ : ∃ w2, w2 = w1.alloc (.cells #[.slice a u.length c, .int .i64 (s.length : Int)] 47) := ⟨_, rfl⟩
    have hb2 : Below w1.heap.size w1 w2 := hw2 ▸ held_alloc (Below.refl _ w1)
    have bx : Box w2 w1.heap.size #[.slice a u.length c, .int .i64 (s.length : Int)] 47 := hw2 ▸ Box.new w1 _ _
    have HPS : Hid (PS w2 w1.heap.size u (s.length : Int)) := ⟨_, bx, hk2.fx (S := fun _ => False) (Fx.of_below hb2) (fun _ _ _ e => e)⟩
    have HB := Lib.hid (hb.trans (hb2.mono hb.size))
    have HE2 := Lib.hid ((HE.out.after hb).after hb2)
    have hs1 := hb.size
    have hul : u.length ≤ 100000 := by simp only at htl; omega
    have hs2 : w2.heap.size = w1.heap.size + 1 := by rw [hw2]; simp
    have HA := Lib.hid ha
    clear hb hp ht hk hk2 HY htl bx hb2 ha
    go_wp2_with fail
    rw [← hw2]
    clear hw2
    refine (text_c N w2 w1.heap.size u _ HPS.out (by omega) (by omega) HE2.out hul).mono ?_
    rw [HA.out]
    rintro e w3 ⟨hf, v, o, b, rfl, rfl, rfl⟩
    have HB3 := Lib.hid (hB_new HB.out hf hs1)
    clear hf
    go_wp2_with fail
    go_quiet (fail)
    go_wp2_with fail
    go_ret3
    rw [HR.out]
    exact ⟨_, rfl, SlC.nil _ _, (HB3.out.alloc HB3.out.size _).trans (below_drewN _ _ _)⟩
  · rw [ht] at hk htl ⊢
    have HR : Hid (y = (cs, 0, 0)) := by show _ = _; rw [← HY.out, hp]
    have hk2 := hk.slT
    obtain ⟨a, c, rfl, _, _, _⟩ := hk.shape
    obtain ⟨w2, hw2⟩ : ∃ w2, w2 = w1.alloc (.cells #[.slice a u.length c, .int .i64 (s.length : Int)] 47) := ⟨_, rfl⟩
    have hb2 : Below w1.heap.size w1 w2 := hw2 ▸ held_alloc (Below.refl _ w1)
    have bx : Box w2 w1.heap.size #[.slice a u.length c, .int .i64 (s.length : Int)] 47 := hw2 ▸ Box.new w1 _ _
    have HPS : Hid (PS w2 w1.heap.size u (s.length : Int)) := ⟨_, bx, hk2.fx (S := fun _ => False) (Fx.of_below hb2) (fun _ _ _ e => e)⟩
    have HB := Lib.hid (hb.trans (hb2.mono hb.size))
    have HE2 := Lib.hid ((HE.out.after hb).after hb2)
    have hs1 := hb.size
    have hul : u.length ≤ 100000 := by simp only at htl; omega
    have hs2 : w2.heap.size = w1.heap.size + 1 := by rw [hw2]; simp
    have HA := Lib.hid ha
    clear hb hp ht hk hk2 HY htl bx hb2 ha
    go_wp2_with fail
    rw [← hw2]
    clear hw2
    refine (text_c N w2 w1.heap.size u _ HPS.out (by omega) (by omega) HE2.out hul).mono ?_
    rw [HA.out]
    rintro e w3 ⟨hf, v, o, b, rfl, hcs, rfl⟩
    have HB3 := Lib.hid (hB_new HB.out hf hs1)
    have HCS := Lib.hid (hcs.mono (D' := fun b => w.heap.size ≤ b) (fun b hb _ => by omega))
    have hs3 := hf.size
    clear hf hcs
    go_wp2_with fail
    go_ret3
    rw [HR.out]
    exact ⟨_, rfl, HCS.out.after (held_alloc (Below.refl _ _)), HB3.out.alloc HB3.out.size _⟩
end Go.Proofs.YtganlldidjbpiaaGreatDoor

namespace Go.Proofs.YtganlldidjbpiaaGreatDoor
open Go.RowKit Go.Shelf

mutual
/-- Equal but for the offsets. -/
def eqC : Cl → Cl → Bool
  | .mk k n d i a b l _, .mk k' n' d' i' a' b' l' _ => decide (k = k') && (decide (d = d') && (decide (i = i') && (decide (a = a') && (decide (b = b') && (decide (n = n') && eqL l l')))))
def eqL : List Cl → List Cl → Bool
  | [], [] => true
  | c :: l, c' :: l' => eqC c c' && eqL l l'
  | [], _ :: _ => false
  | _ :: _, [] => false
end
theorem eqC_at (c d : Cl) : eqC c d = (decide (c.kind = d.kind) && (decide (c.dom = d.dom) && (decide (c.idx = d.idx) && (decide (c.a = d.a) && (decide (c.b = d.b) && (decide (c.names = d.names) && eqL c.items d.items)))))) := by
  cases c; cases d; rw [eqC]; rfl
mutual
theorem eqC_iff : ∀ c d : Cl, eqC c d = true ↔ strip c = strip d
  | .mk k n dm i a b l o, .mk k' n' d' i' a' b' l' o' => by
    rw [eqC, strip, strip]
    simp only [Bool.and_eq_true, decide_eq_true_eq, Cl.mk.injEq]
    rw [eqL_iff l l']
    constructor
    · rintro ⟨h1, h2, h3, h4, h5, h6, h7⟩; exact ⟨h1, h6, h2, h3, h4, h5, h7, trivial⟩
    · rintro ⟨h1, h6, h2, h3, h4, h5, h7, _⟩; exact ⟨h1, h2, h3, h4, h5, h6, h7⟩
theorem eqL_iff : ∀ l m : List Cl, eqL l m = true ↔ stripL l = stripL m
  | [], [] => by rw [eqL]; simp
  | c :: l, d :: m => by
    rw [eqL, stripL, stripL, Bool.and_eq_true, eqC_iff c d, eqL_iff l m, List.cons.injEq]
  | [], _ :: _ => by rw [eqL, stripL, stripL]; simp
  | _ :: _, [] => by rw [eqL, stripL, stripL]; simp
end
theorem eqL_len : ∀ {l m : List Cl}, l.length ≠ m.length → eqL l m = false
  | [], [], h => absurd rfl h
  | c :: l, d :: m, h => by rw [eqL, eqL_len (l := l) (m := m) (by simpa using h), Bool.and_false]
  | [], _ :: _, _ => by rw [eqL]
  | _ :: _, [], _ => by rw [eqL]
theorem eqL_no : ∀ {l m : List Cl}, l.length = m.length → ∀ i, i < l.length → eqC (l.getD i cl0) (m.getD i cl0) = false → eqL l m = false
  | [], [], _, i, hi, _ => by simp at hi
  | c :: l, d :: m, h, 0, _, e => by
    have e : eqC c d = false := e
    rw [eqL, e, Bool.false_and]
  | c :: l, d :: m, h, i + 1, hi, e => by rw [eqL, eqL_no (l := l) (m := m) (by simpa using h) i (by simpa using hi) (by simpa using e), Bool.and_false]
  | [], _ :: _, h, _, _, _ => by simp at h
  | _ :: _, [], h, _, _, _ => by simp at h
theorem eqL_yes : ∀ {l m : List Cl}, l.length = m.length → (∀ i, i < l.length → eqC (l.getD i cl0) (m.getD i cl0) = true) → eqL l m = true
  | [], [], _, _ => by rw [eqL]
  | c :: l, d :: m, h, e => by
    have e0 : eqC c d = true := e 0 (by simp)
    rw [eqL, e0, eqL_yes (l := l) (m := m) (by simpa using h) (fun i hi => by simpa using e (i + 1) (by simpa using hi)), Bool.and_true]
  | [], _ :: _, h, _ => by simp at h
  | _ :: _, [], h, _ => by simp at h
set_option maxRecDepth 100000 in
set_option maxHeartbeats 4000000 in
theorem equalS_c (D D' : Nat → Prop) (w : World) (v u : Value) (l m : List (List UInt8)) (h : SlN D w v l) (k : SlN D' w u m) :
    Calls Tryz.prog 65 #[v, u] w (RetB w (decide (l = m))) := by
  obtain ⟨p, c, rfl, h1, h2, _⟩ := h.2.shape
  obtain ⟨q, d, rfl, k1, k2, _⟩ := k.2.shape
  have H := Lib.hid h.2
  have K := Lib.hid k.2
  clear h k
  obtain ⟨B, hB⟩ : ∃ B, decide (l = m) = B := ⟨_, rfl⟩
  rw [hB]
  have HB := Lib.hid hB
  clear hB
  by_cases hlen : l.length = m.length
  · have q0 : (((l.length : Nat) : Int) != ((m.length : Nat) : Int)) = false := by simp; omega
    have hl1 : l.length ≤ m.length := by omega
    have hl2 : m.length ≤ l.length := by omega
    have HLE := Lib.hid hlen
    clear hlen
    go_enter Tryz.func65, Tryz.ntmps65
    go_wp2_with fail
    go_loopg [13] l.length (fun g t wx => ∃ i : Nat, i ≤ l.length ∧ g = l.length - i ∧ t = .int .i64 (i : Int) ∧ Hid (∀ j, j < i → l.getD j [] = m.getD j []) ∧ Hid (Below w.heap.size w wx))
    case atStart => exact ⟨0, Nat.zero_le _, rfl, rfl, fun j hj => absurd hj (by omega), Below.refl _ _⟩
    case round =>
      obtain ⟨i, hi, rfl, rfl, heq, hbl⟩ := hrel
      by_cases hlt : i < l.length
      · obtain ⟨ba, oa, ca, ea, _, _, _, la, hca⟩ := (H.out.after hbl.out).at_ (by omega)
        obtain ⟨bb, ob, cb, eb, _, _, _, lb, hcb⟩ := (K.out.after hbl.out).at_ (by omega)
        injection ea with ea _ ec
        subst ea ec
        injection eb with eb _ ec
        subst eb ec
        have x0 : wr.cell? ⟨ba, oa + i, none⟩ = some (.string (bs (l.getD i []))) := by have := hca i hlt 0 (by omega); simpa using this
        have y0 : wr.cell? ⟨bb, ob + i, none⟩ = some (.string (bs (m.getD i []))) := by have := hcb i (by omega) 0 (by omega); simpa using this
        clear hca hcb
        have il : (i : Int) < (l.length : Int) := by omega
        have im : (i : Int) < (m.length : Int) := by omega
        have i0 : (0 : Int) ≤ (i : Int) := by omega
        obtain ⟨x, hx⟩ : ∃ x, l.getD i [] = x := ⟨_, rfl⟩
        obtain ⟨y, hy⟩ : ∃ y, m.getD i [] = y := ⟨_, rfl⟩
        rw [hx] at x0
        rw [hy] at y0
        have HX := Lib.hid hx
        have HY := Lib.hid hy
        clear hx hy
        by_cases he : x = y
        · have q1 : ((bs x).toList == (bs y).toList) = true := by rw [he]; simp
          have HE := Lib.hid he
          clear he
          go_wp2_with fail
          go_quiet (fail)
          go_wp2_with fail
          go_roundg (l.length - (i + 1))
          case measure => omega
          case rel =>
            refine ⟨i + 1, by omega, rfl, by go_num, fun j hj => ?_, hbl.out.trans (below_drewN _ _ _)⟩
            rcases Nat.lt_or_ge j i with h | h
            · exact heq.out j h
            · obtain rfl : j = i := by omega
              rw [HX.out, HY.out]; exact HE.out
        · have q1 : ((bs x).toList == (bs y).toList) = false := bs_eq_no he
          have HE : Hid (B = false) := by
            show _ = _
            rw [← HB.out]
            exact decide_eq_false (fun e => he (by rw [← HX.out, ← HY.out, e]))
          clear he
          go_wp2_with fail
          go_quiet (fail)
          go_wp2_with fail
          go_ret
          rw [HE.out]
          exact ⟨rfl, hbl.out.trans (below_drewN _ _ _)⟩
      · obtain rfl : i = l.length := by omega
        have HE : Hid (B = true) := by
          show _ = _
          rw [← HB.out]
          refine decide_eq_true (List.ext_getElem HLE.out (fun j h1 h2 => ?_))
          have := heq.out j h1
          rw [List.getD_eq_getElem?_getD, List.getElem?_eq_getElem h1, List.getD_eq_getElem?_getD, List.getElem?_eq_getElem h2] at this
          exact this
        go_wp2_with fail
        go_ret
        rw [HE.out]
        exact ⟨rfl, hbl.out⟩
  · have q0 : (((l.length : Nat) : Int) != ((m.length : Nat) : Int)) = true := by simp; omega
    have HE : Hid (B = false) := by
      show _ = _
      rw [← HB.out]
      exact decide_eq_false (fun e => hlen (by rw [e]))
    go_enter Tryz.func65, Tryz.ntmps65
    go_wp2_with fail
    go_ret
    rw [HE.out]
    exact ⟨rfl, Below.refl _ _⟩
end Go.Proofs.YtganlldidjbpiaaGreatDoor

namespace Go.Proofs.YtganlldidjbpiaaGreatDoor
open Go.RowKit Go.Shelf

set_option maxRecDepth 100000 in
set_option maxHeartbeats 4000000 in
theorem same_c (D D' : Nat → Prop) (w : World) (c d : Cl) (vn vi vm vj : Value) (h : HasC D w vn vi c) (k : HasC D' w vm vj d) (hS : ∀ (W : World) (v u : Value), SlC D W v c.items → SlC D' W u d.items → Calls Tryz.prog 19 #[v, u] W (RetB W (eqL c.items d.items))) :
    Calls Tryz.prog 33 #[.agg (clV c vn vi).toArray, .agg (clV d vm vj).toArray] w (RetB w (eqC c d)) := by
  obtain ⟨_, hnc, hic⟩ := hasC_iff.1 h
  obtain ⟨_, hnd, hid⟩ := hasC_iff.1 k
  obtain ⟨qn, cn, rfl, _, _, _⟩ := hnc.2.shape
  obtain ⟨qi, ci, rfl, _, _, _⟩ := hic.shape
  obtain ⟨qm, cm, rfl, _, _, _⟩ := hnd.2.shape
  obtain ⟨qj, cj, rfl, _, _, _⟩ := hid.shape
  unfold clV
  obtain ⟨Wa, hWa⟩ : ∃ Wa, Wa = w.alloc (.cells #[.int .u8 (c.kind : Int), .slice qn c.names.length cn, .int .u8 (c.dom : Int), .int .i64 c.idx, .int .i64 c.a, .int .i64 c.b, .slice qi c.items.length ci, .int .i64 c.off] 43) := ⟨_, rfl⟩
  have hba : Below w.heap.size w Wa := hWa ▸ held_alloc (Below.refl _ w)
  have hsa : Wa.heap.size = w.heap.size + 1 := by rw [hWa]; simp
  have bxa : Box Wa w.heap.size #[.int .u8 (c.kind : Int), .slice qn c.names.length cn, .int .u8 (c.dom : Int), .int .i64 c.idx, .int .i64 c.a, .int .i64 c.b, .slice qi c.items.length ci, .int .i64 c.off] 43 := hWa ▸ Box.new w _ _
  obtain ⟨W0, hW0⟩ : ∃ W0, W0 = Wa.alloc (.cells #[.int .u8 (d.kind : Int), .slice qm d.names.length cm, .int .u8 (d.dom : Int), .int .i64 d.idx, .int .i64 d.a, .int .i64 d.b, .slice qj d.items.length cj, .int .i64 d.off] 43) := ⟨_, rfl⟩
  have hb0 : Below Wa.heap.size Wa W0 := hW0 ▸ held_alloc (Below.refl _ Wa)
  have by_ : Box W0 Wa.heap.size #[.int .u8 (d.kind : Int), .slice qm d.names.length cm, .int .u8 (d.dom : Int), .int .i64 d.idx, .int .i64 d.a, .int .i64 d.b, .slice qj d.items.length cj, .int .i64 d.off] 43 := hW0 ▸ Box.new Wa _ _
  rw [hsa] at by_
  have bx := bxa.after hb0
  have hB0 : Below w.heap.size w W0 := hba.trans (hb0.mono (by omega))
  have HB0 := Lib.hid hB0
  have HNC := Lib.hid (hnc.fx (S := fun _ => False) (Fx.of_below hB0) (fun _ _ _ e => e))
  have HND := Lib.hid (hnd.fx (S := fun _ => False) (Fx.of_below hB0) (fun _ _ _ e => e))
  have HIC := Lib.hid (hic.after hB0)
  have HID := Lib.hid (hid.after hB0)
  have l0 := bx.lt
  have l1 := by_.lt
  have d0 : W0.cell? ⟨w.heap.size, 0, none⟩ = some (.int .u8 (c.kind : Int)) := bx.cell 0
  have d1 : W0.cell? ⟨w.heap.size, 1, none⟩ = some (.slice qn c.names.length cn) := bx.cell 1
  have d2 : W0.cell? ⟨w.heap.size, 2, none⟩ = some (.int .u8 (c.dom : Int)) := bx.cell 2
  have d3 : W0.cell? ⟨w.heap.size, 3, none⟩ = some (.int .i64 c.idx) := bx.cell 3
  have d4 : W0.cell? ⟨w.heap.size, 4, none⟩ = some (.int .i64 c.a) := bx.cell 4
  have d5 : W0.cell? ⟨w.heap.size, 5, none⟩ = some (.int .i64 c.b) := bx.cell 5
  have d6 : W0.cell? ⟨w.heap.size, 6, none⟩ = some (.slice qi c.items.length ci) := bx.cell 6
  have d7 : W0.cell? ⟨w.heap.size, 7, none⟩ = some (.int .i64 c.off) := bx.cell 7
  have y0 : W0.cell? ⟨w.heap.size + 1, 0, none⟩ = some (.int .u8 (d.kind : Int)) := by_.cell 0
  have y1 : W0.cell? ⟨w.heap.size + 1, 1, none⟩ = some (.slice qm d.names.length cm) := by_.cell 1
  have y2 : W0.cell? ⟨w.heap.size + 1, 2, none⟩ = some (.int .u8 (d.dom : Int)) := by_.cell 2
  have y3 : W0.cell? ⟨w.heap.size + 1, 3, none⟩ = some (.int .i64 d.idx) := by_.cell 3
  have y4 : W0.cell? ⟨w.heap.size + 1, 4, none⟩ = some (.int .i64 d.a) := by_.cell 4
  have y5 : W0.cell? ⟨w.heap.size + 1, 5, none⟩ = some (.int .i64 d.b) := by_.cell 5
  have y6 : W0.cell? ⟨w.heap.size + 1, 6, none⟩ = some (.slice qj d.items.length cj) := by_.cell 6
  have y7 : W0.cell? ⟨w.heap.size + 1, 7, none⟩ = some (.int .i64 d.off) := by_.cell 7
  clear bxa bx by_ hba hb0 hB0 hnc hnd hic hid h k hsa
  by_cases hkind : c.kind = d.kind
  · have qkind : (((c.kind : Nat) : Int) == ((d.kind : Nat) : Int)) = true := by simp; omega
    have Hkind := Lib.hid hkind
    clear hkind
    by_cases hdom : c.dom = d.dom
    · have qdom : (((c.dom : Nat) : Int) == ((d.dom : Nat) : Int)) = true := by simp; omega
      have Hdom := Lib.hid hdom
      clear hdom
      by_cases hidx : c.idx = d.idx
      · have qidx : (c.idx == d.idx) = true := by simp; omega
        have Hidx := Lib.hid hidx
        clear hidx
        by_cases ha : c.a = d.a
        · have qa : (c.a == d.a) = true := by simp; omega
          have Ha := Lib.hid ha
          clear ha
          by_cases hb : c.b = d.b
          · have qb : (c.b == d.b) = true := by simp; omega
            have Hb := Lib.hid hb
            clear hb
            go_enter Tryz.func33, Tryz.ntmps33
            go_upto_region 1 with fail
            rw [← hWa, ← hW0]
            clear hWa hW0
            go_wp2_with fail
            refine (equalS_c _ _ _ _ _ _ _ HNC.out HND.out).mono ?_
            rintro e w1 ⟨rfl, hb1⟩
            have HB1 := Lib.hid (HB0.out.trans (hb1.mono HB0.out.size))
            replace d6 := keep_cell hb1 d6
            replace y6 := keep_cell hb1 y6
            have l0' := World.block_lt_of_cell? _ _ d6
            have l1' := World.block_lt_of_cell? _ _ y6
            simp only at l0' l1'
            have HIC1 := Lib.hid (HIC.out.after hb1)
            have HID1 := Lib.hid (HID.out.after hb1)
            clear hb1 d0 d1 d2 d3 d4 d5 y0 y1 y2 y3 y4 y5
            by_cases hn : c.names = d.names
            · rw [decide_eq_true hn]
              have HE : Hid (eqC c d = eqL c.items d.items) := by show _ = _; rw [eqC_at]; simp [Hkind.out, Hdom.out, Hidx.out, Ha.out, Hb.out, hn]
              clear hn
              go_wp2_with fail
              refine (hS w1 _ _ HIC1.out HID1.out).mono ?_
              rw [← HE.out]
              rintro e w2 ⟨rfl, hb2⟩
              have HB2 := Lib.hid (HB1.out.trans (hb2.mono HB1.out.size))
              clear hb2
              obtain ⟨B, hB⟩ : ∃ B, eqC c d = B := ⟨_, rfl⟩
              rw [hB]
              have HBQ := Lib.hid hB
              clear hB HE
              go_wp2_with fail
              go_ret
              exact ⟨ret_bool HBQ.out.symm, HB2.out⟩
            · rw [decide_eq_false hn]
              have HE : Hid (eqC c d = false) := by show _ = _; rw [eqC_at]; simp [Hkind.out, Hdom.out, Hidx.out, Ha.out, Hb.out, hn]
              clear hn
              go_wp2_with fail
              go_ret
              rw [HE.out]
              exact ⟨rfl, HB1.out⟩
          · have qb : (c.b == d.b) = false := by simp; omega
            have HE : Hid (eqC c d = false) := by show _ = _; rw [eqC_at]; simp [hb, Hkind.out, Hdom.out, Hidx.out, Ha.out]
            clear hb
            go_enter Tryz.func33, Tryz.ntmps33
            go_upto_region 1 with fail
            rw [← hWa, ← hW0]
            clear hWa hW0
            go_wp2_with fail
            go_ret
            rw [HE.out]
            exact ⟨rfl, HB0.out⟩
        · have qa : (c.a == d.a) = false := by simp; omega
          have HE : Hid (eqC c d = false) := by show _ = _; rw [eqC_at]; simp [ha, Hkind.out, Hdom.out, Hidx.out]
          clear ha
          go_enter Tryz.func33, Tryz.ntmps33
          go_upto_region 1 with fail
          rw [← hWa, ← hW0]
          clear hWa hW0
          go_wp2_with fail
          go_ret
          rw [HE.out]
          exact ⟨rfl, HB0.out⟩
      · have qidx : (c.idx == d.idx) = false := by simp; omega
        have HE : Hid (eqC c d = false) := by show _ = _; rw [eqC_at]; simp [hidx, Hkind.out, Hdom.out]
        clear hidx
        go_enter Tryz.func33, Tryz.ntmps33
        go_upto_region 1 with fail
        rw [← hWa, ← hW0]
        clear hWa hW0
        go_wp2_with fail
        go_ret
        rw [HE.out]
        exact ⟨rfl, HB0.out⟩
    · have qdom : (((c.dom : Nat) : Int) == ((d.dom : Nat) : Int)) = false := by simp; omega
      have HE : Hid (eqC c d = false) := by show _ = _; rw [eqC_at]; simp [hdom, Hkind.out]
      clear hdom
      go_enter Tryz.func33, Tryz.ntmps33
      go_upto_region 1 with fail
      rw [← hWa, ← hW0]
      clear hWa hW0
      go_wp2_with fail
      go_ret
      rw [HE.out]
      exact ⟨rfl, HB0.out⟩
  · have qkind : (((c.kind : Nat) : Int) == ((d.kind : Nat) : Int)) = false := by simp; omega
    have HE : Hid (eqC c d = false) := by show _ = _; rw [eqC_at]; simp [hkind]
    clear hkind
    go_enter Tryz.func33, Tryz.ntmps33
    go_upto_region 1 with fail
    rw [← hWa, ← hW0]
    clear hWa hW0
    go_wp2_with fail
    go_ret
    rw [HE.out]
    exact ⟨rfl, HB0.out⟩
set_option maxRecDepth 100000 in
set_option maxHeartbeats 4000000 in
theorem equalC_c (D D' : Nat → Prop) (w : World) (v u : Value) (l m : List Cl) (h : SlC D w v l) (k : SlC D' w u m) (hlen : l.length = m.length) (hS : ∀ i, i < l.length → ∀ (W : World) (v u : Value), SlC D W v (l.getD i cl0).items → SlC D' W u (m.getD i cl0).items → Calls Tryz.prog 19 #[v, u] W (RetB W (eqL (l.getD i cl0).items (m.getD i cl0).items))) :
    Calls Tryz.prog 32 #[v, u, .func (.func 33) #[] #[]] w (RetB w (eqL l m)) := by
  have H := Lib.hid h
  have K := Lib.hid k
  obtain ⟨p, c, rfl, h1, h2, _⟩ := h.shape
  obtain ⟨q, d, rfl, k1, k2, _⟩ := k.shape
  clear h k
  obtain ⟨B, hB⟩ : ∃ B, eqL l m = B := ⟨_, rfl⟩
  rw [hB]
  have HB := Lib.hid hB
  have q0 : (((l.length : Nat) : Int) != ((m.length : Nat) : Int)) = false := by simp; omega
  have hl1 : l.length ≤ m.length := by omega
  have hl2 : m.length ≤ l.length := by omega
  have HLE := Lib.hid hlen
  clear hB hlen
  go_enter Tryz.func32, Tryz.ntmps32
  go_wp2_with fail
  go_loopg [17] l.length (fun g t wx => ∃ i : Nat, i ≤ l.length ∧ g = l.length - i ∧ t = .int .i64 (i : Int) ∧ Hid (∀ j, j < i → eqC (l.getD j cl0) (m.getD j cl0) = true) ∧ Hid (Below w.heap.size w wx))
  case atStart => exact ⟨0, Nat.zero_le _, rfl, rfl, fun j hj => absurd hj (by omega), Below.refl _ _⟩
  case round =>
    obtain ⟨i, hi, rfl, rfl, heq, hbl⟩ := hrel
    by_cases hlt : i < l.length
    · obtain ⟨ba, oa, ca, ea, _, _, _, la, hca⟩ := (H.out.after hbl.out).at_ (by omega)
      obtain ⟨bb, ob, cb, eb, _, _, _, lb, hcb⟩ := (K.out.after hbl.out).at_ (by omega)
      injection ea with ea _ ec
      subst ea ec
      injection eb with eb _ ec
      subst eb ec
      obtain ⟨vn, vi, hc, x0, x1, x2, x3, x4, x5, x6, x7⟩ := hca i hlt
      obtain ⟨vm, vj, hd, y0, y1, y2, y3, y4, y5, y6, y7⟩ := hcb i (by omega)
      have HS := Lib.hid (hS i hlt)
      clear hca hcb
      have il : (i : Int) < (l.length : Int) := by omega
      have im : (i : Int) < (m.length : Int) := by omega
      have i0 : (0 : Int) ≤ (i : Int) := by omega
      obtain ⟨x, hx⟩ : ∃ x, l.getD i cl0 = x := ⟨_, rfl⟩
      obtain ⟨y, hy⟩ : ∃ y, m.getD i cl0 = y := ⟨_, rfl⟩
      rw [hx] at x0 x2 x3 x4 x5 x7 hc HS
      rw [hy] at y0 y2 y3 y4 y5 y7 hd HS
      have HX := Lib.hid hx
      have HY := Lib.hid hy
      obtain ⟨qn, cn, rfl, _, _, _⟩ := (hasC_iff.1 hc).2.1.2.shape
      obtain ⟨qi, ci, rfl, _, _, _⟩ := (hasC_iff.1 hc).2.2.shape
      obtain ⟨qm, cm, rfl, _, _, _⟩ := (hasC_iff.1 hd).2.1.2.shape
      obtain ⟨qj, cj, rfl, _, _, _⟩ := (hasC_iff.1 hd).2.2.shape
      obtain ⟨Wa, hWa⟩ : ∃ Wa, Wa = wr.alloc (.cells #[.int .u8 (x.kind : Int), .slice qn x.names.length cn, .int .u8 (x.dom : Int), .int .i64 x.idx, .int .i64 x.a, .int .i64 x.b, .slice qi x.items.length ci, .int .i64 x.off] 43) := ⟨_, rfl⟩
      have hba : Below wr.heap.size wr Wa := hWa ▸ held_alloc (Below.refl _ wr)
      have hsa : Wa.heap.size = wr.heap.size + 1 := by rw [hWa]; simp
      have bxa : Box Wa wr.heap.size #[.int .u8 (x.kind : Int), .slice qn x.names.length cn, .int .u8 (x.dom : Int), .int .i64 x.idx, .int .i64 x.a, .int .i64 x.b, .slice qi x.items.length ci, .int .i64 x.off] 43 := hWa ▸ Box.new wr _ _
      obtain ⟨W0, hW0⟩ : ∃ W0, W0 = Wa.alloc (.cells #[.int .u8 (y.kind : Int), .slice qm y.names.length cm, .int .u8 (y.dom : Int), .int .i64 y.idx, .int .i64 y.a, .int .i64 y.b, .slice qj y.items.length cj, .int .i64 y.off] 43) := ⟨_, rfl⟩
      have hb0 : Below Wa.heap.size Wa W0 := hW0 ▸ held_alloc (Below.refl _ Wa)
      have by_ : Box W0 Wa.heap.size #[.int .u8 (y.kind : Int), .slice qm y.names.length cm, .int .u8 (y.dom : Int), .int .i64 y.idx, .int .i64 y.a, .int .i64 y.b, .slice qj y.items.length cj, .int .i64 y.off] 43 := hW0 ▸ Box.new Wa _ _
      rw [hsa] at by_
      have bx := bxa.after hb0
      have hB0 : Below wr.heap.size wr W0 := hba.trans (hb0.mono (by omega))
      have HB0 := Lib.hid (hbl.out.trans (hB0.mono hbl.out.size))
      have HC0 := Lib.hid (HasC.fx (S := fun _ => False) (Fx.of_below hB0) (fun _ _ _ e => e) x hc)
      have HD0 := Lib.hid (HasC.fx (S := fun _ => False) (Fx.of_below hB0) (fun _ _ _ e => e) y hd)
      obtain ⟨d0, d1, d2, d3, d4, d5, d6, d7⟩ := bx.cells8
      obtain ⟨e0, e1, e2, e3, e4, e5, e6, e7⟩ := by_.cells8
      have l0 := bx.lt
      have l1 := by_.lt
      clear bxa bx by_ hba hb0 hB0 hc hd hx hy hsa
      go_upto_region 7 with fail
      rw [← hWa, ← hW0]
      clear hWa hW0 x0 x1 x2 x3 x4 x5 x6 x7 y0 y1 y2 y3 y4 y5 y6 y7
      go_wp2_with fail
      refine (same_c D D' W0 x y _ _ _ _ HC0.out HD0.out (fun W v u => HS.out W v u)).mono ?_
      rintro e w1 ⟨rfl, hb1⟩
      have HB1 := Lib.hid (HB0.out.trans (hb1.mono HB0.out.size))
      clear hb1 d0 d1 d2 d3 d4 d5 d6 d7 e0 e1 e2 e3 e4 e5 e6 e7
      cases he : eqC x y with
      | true =>
        have HE := Lib.hid he
        clear he
        go_wp2_with fail
        go_roundg (l.length - (i + 1))
        case measure => omega
        case rel =>
          refine ⟨i + 1, by omega, rfl, by go_num, fun j hj => ?_, HB1.out⟩
          rcases Nat.lt_or_ge j i with h | h
          · exact heq.out j h
          · obtain rfl : j = i := by omega
            rw [HX.out, HY.out]; exact HE.out
      | false =>
        have HE : Hid (B = false) := by
          show _ = _
          rw [← HB.out]
          exact eqL_no HLE.out i hlt (by rw [HX.out, HY.out]; exact he)
        clear he
        go_wp2_with fail
        go_ret
        rw [HE.out]
        exact ⟨rfl, HB1.out⟩
    · obtain rfl : i = l.length := by omega
      have HE : Hid (B = true) := by
        show _ = _
        rw [← HB.out]
        exact eqL_yes HLE.out heq.out
      go_wp2_with fail
      go_ret
      rw [HE.out]
      exact ⟨rfl, hbl.out⟩
set_option maxRecDepth 100000 in
set_option maxHeartbeats 4000000 in
theorem equalC_no (w : World) (p q : Option Addr) (n m c d : Nat) (f : Value) (hlen : n ≠ m) :
    Calls Tryz.prog 32 #[.slice p n c, .slice q m d, f] w (RetB w false) := by
  have q0 : (((n : Nat) : Int) != ((m : Nat) : Int)) = true := by simp; omega
  go_enter Tryz.func32, Tryz.ntmps32
  go_wp2_with fail
  go_ret
  exact ⟨rfl, Below.refl _ _⟩
theorem cl_items_lt (c : Cl) : SizeOf.sizeOf c.items < SizeOf.sizeOf c := by
  cases c
  show SizeOf.sizeOf _ < SizeOf.sizeOf _
  rw [Cl.mk.sizeOf_spec]
  simp only [Cl.items]
  omega
theorem items_at_lt {l : List Cl} {i : Nat} (hi : i < l.length) : SizeOf.sizeOf (l.getD i cl0).items < SizeOf.sizeOf l := by
  have h1 : l.getD i cl0 ∈ l := by rw [List.getD_eq_getElem?_getD, List.getElem?_eq_getElem hi]; exact List.getElem_mem hi
  have h2 := List.sizeOf_lt_of_mem h1
  have h3 := cl_items_lt (l.getD i cl0)
  omega
theorem Same_n (D D' : Nat → Prop) : ∀ (n : Nat) (l m : List Cl), SizeOf.sizeOf l < n → ∀ (w : World) (v u : Value), SlC D w v l → SlC D' w u m → Calls Tryz.prog 19 #[v, u] w (RetB w (eqL l m))
  | 0, _, _, h => absurd h (Nat.not_lt_zero _)
  | n + 1, l, m, hn => by
    intro w v u h k
    have hE : Calls Tryz.prog 32 #[v, u, .func (.func 33) #[] #[]] w (RetB w (eqL l m)) := by
      by_cases hlen : l.length = m.length
      · exact equalC_c D D' w v u l m h k hlen (fun i hi W v u => Same_n D D' n _ _ (by have := items_at_lt hi; omega) W v u)
      · obtain ⟨p, c, rfl, _, _, _⟩ := h.shape
        obtain ⟨q, d, rfl, _, _, _⟩ := k.shape
        rw [eqL_len hlen]
        exact equalC_no w p q _ _ c d _ hlen
    go_enter Tryz.func19, Tryz.ntmps19
    go_wp2_with fail
    refine hE.mono ?_
    obtain ⟨B, hB⟩ : ∃ B, eqL l m = B := ⟨_, rfl⟩
    rw [hB]
    have HB := Lib.hid hB
    clear hB hE
    rintro e w1 ⟨rfl, hb⟩
    have HBB := Lib.hid hb
    clear hb
    go_wp2_with fail
    go_ret
    exact ⟨ret_bool HB.out.symm, HBB.out⟩
/-- Same, of any two trees. -/
theorem Same_c (D D' : Nat → Prop) (w : World) (v u : Value) (l m : List Cl) (h : SlC D w v l) (k : SlC D' w u m) : Calls Tryz.prog 19 #[v, u] w (RetB w (eqL l m)) := Same_n D D' _ l m (Nat.lt_succ_self _) w v u h k
end Go.Proofs.YtganlldidjbpiaaGreatDoor

namespace Go.Proofs.YtganlldidjbpiaaGreatDoor
open Go.RowKit Go.Shelf

/-- The parts of a clause of kind k: a word, and a field. -/
def partsOf (k : Nat) : List (List UInt8 × Nat) := if k = 1 then [([], 1), ([], 7)] else if k = 2 then [([], 6), ([], 3), (sFrom, 4), (sTo, 5)] else if k = 3 then [([], 6), ([], 3)] else if k = 4 then [([], 4)] else if k = 5 then [(sFeed, 3), (sAt, 4)] else if k = 6 then [([], 4)] else if k = 7 then [([], 4)] else if k = 8 then [([], 4)] else if k = 9 then [([], 4), (sPer, 6)] else if k = 10 then [([], 2)] else if k = 11 then [([], 1), (sWithin, 4)] else if k = 12 then [([], 4)] else []
def pt0 : List UInt8 × Nat := ([], 0)
def partC (p : List UInt8 × Nat) (j : Nat) : Value := match j with
  | 0 => .string (bs p.1)
  | _ => .int .u8 ((p.2 : Nat) : Int)
/-- A slice of parts. -/
def SlP (D : Nat → Prop) (w : World) (v : Value) (ps : List (List UInt8 × Nat)) : Prop := SlH D w v ps.length 2 (fun i j => partC (ps.getD i pt0) j)
theorem SlP.after {D : Nat → Prop} {w W : World} {v : Value} {ps : List (List UInt8 × Nat)} (h : SlP D w v ps) (hb : Below w.heap.size w W) : SlP D W v ps := SlH.after h hb
def flatP : List (List UInt8 × Nat) → List Value
  | [] => []
  | p :: l => .string (bs p.1) :: .int .u8 ((p.2 : Nat) : Int) :: flatP l
theorem flatP_at : ∀ (ps : List (List UInt8 × Nat)) (i : Nat), i < ps.length → ∀ j, j < 2 → (flatP ps)[i * 2 + j]? = some (partC (ps.getD i pt0) j)
  | [], i, hi, _, _ => by simp at hi
  | p :: l, 0, _, j, hj => by
    match j, hj with
    | 0, _ => rfl
    | 1, _ => rfl
  | p :: l, i + 1, hi, j, hj => by
    have := flatP_at l i (by simpa using hi) j hj
    rw [show (i + 1) * 2 + j = i * 2 + j + 2 by omega]
    exact this
theorem SlP.new (w : World) (ps : List (List UInt8 × Nat)) (n : Nat) (hn : ps.length = n) (hl : n ≤ 100) : SlP (fun b => w.heap.size ≤ b) (w.alloc (.cells (flatP ps).toArray 83)) (.slice (some ⟨w.heap.size, 0, none⟩) n n) ps := by
  subst hn
  refine ⟨_, _, rfl, Nat.le_refl _, by omega, (fun h => by cases h), fun _ => ⟨w.heap.size, 0, rfl, Nat.le_refl _, by simp, fun i hi j hj => ?_⟩⟩
  rw [(Box.new w _ _).cell, Nat.zero_add]
  have := flatP_at ps i hi j hj
  simpa using this
def RetPl (w : World) (k : Nat) (e : Ending) (w' : World) : Prop := ∃ v, e = .returned (.tuple #[.string (bs (kindW k)), v, .bool (decide (1 ≤ k ∧ k ≤ 12))]) ∧ SlP (fun b => w.heap.size ≤ b) w' v (partsOf k) ∧ Below w.heap.size w w'
set_option maxRecDepth 100000 in
set_option maxHeartbeats 2000000 in
theorem plan_1 (w : World) : Calls Tryz.prog 46 #[.int .u8 1] w (RetPl w 1) := by
  go_enter Tryz.func46, Tryz.ntmps46
  go_wp2_with fail
  go_ret3
  refine ⟨_, rfl, ?_, ?_⟩
  · have this := SlP.new (w.alloc (.cells (flatP [([], 4)]).toArray 83)) [([], 1), ([], 7)] 2 rfl (by omega)
    have e : (w.alloc (.cells (flatP [([], 4)]).toArray 83)).heap.size = w.heap.size + 1 := by simp
    rw [e] at this
    exact SlH.mono this (fun b hb _ => by omega)
  · exact held_alloc (held_alloc (Below.refl _ _)) (by simp)
set_option maxRecDepth 100000 in
set_option maxHeartbeats 2000000 in
theorem plan_2 (w : World) : Calls Tryz.prog 46 #[.int .u8 2] w (RetPl w 2) := by
  go_enter Tryz.func46, Tryz.ntmps46
  go_wp2_with fail
  go_ret3
  refine ⟨_, rfl, ?_, ?_⟩
  · have this := SlP.new (w.alloc (.cells (flatP [([], 4)]).toArray 83)) [([], 6), ([], 3), (sFrom, 4), (sTo, 5)] 4 rfl (by omega)
    have e : (w.alloc (.cells (flatP [([], 4)]).toArray 83)).heap.size = w.heap.size + 1 := by simp
    rw [e] at this
    exact SlH.mono this (fun b hb _ => by omega)
  · exact held_alloc (held_alloc (Below.refl _ _)) (by simp)
set_option maxRecDepth 100000 in
set_option maxHeartbeats 2000000 in
theorem plan_3 (w : World) : Calls Tryz.prog 46 #[.int .u8 3] w (RetPl w 3) := by
  go_enter Tryz.func46, Tryz.ntmps46
  go_wp2_with fail
  go_ret3
  refine ⟨_, rfl, ?_, ?_⟩
  · have this := SlP.new (w.alloc (.cells (flatP [([], 4)]).toArray 83)) [([], 6), ([], 3)] 2 rfl (by omega)
    have e : (w.alloc (.cells (flatP [([], 4)]).toArray 83)).heap.size = w.heap.size + 1 := by simp
    rw [e] at this
    exact SlH.mono this (fun b hb _ => by omega)
  · exact held_alloc (held_alloc (Below.refl _ _)) (by simp)
set_option maxRecDepth 100000 in
set_option maxHeartbeats 2000000 in
theorem plan_4 (w : World) : Calls Tryz.prog 46 #[.int .u8 4] w (RetPl w 4) := by
  go_enter Tryz.func46, Tryz.ntmps46
  go_wp2_with fail
  go_ret3
  exact ⟨_, rfl, SlP.new w [([], 4)] 1 rfl (by omega), held_alloc (Below.refl _ _)⟩
set_option maxRecDepth 100000 in
set_option maxHeartbeats 2000000 in
theorem plan_5 (w : World) : Calls Tryz.prog 46 #[.int .u8 5] w (RetPl w 5) := by
  go_enter Tryz.func46, Tryz.ntmps46
  go_wp2_with fail
  go_ret3
  refine ⟨_, rfl, ?_, ?_⟩
  · have this := SlP.new (w.alloc (.cells (flatP [([], 4)]).toArray 83)) [(sFeed, 3), (sAt, 4)] 2 rfl (by omega)
    have e : (w.alloc (.cells (flatP [([], 4)]).toArray 83)).heap.size = w.heap.size + 1 := by simp
    rw [e] at this
    exact SlH.mono this (fun b hb _ => by omega)
  · exact held_alloc (held_alloc (Below.refl _ _)) (by simp)
set_option maxRecDepth 100000 in
set_option maxHeartbeats 2000000 in
theorem plan_6 (w : World) : Calls Tryz.prog 46 #[.int .u8 6] w (RetPl w 6) := by
  go_enter Tryz.func46, Tryz.ntmps46
  go_wp2_with fail
  go_ret3
  exact ⟨_, rfl, SlP.new w [([], 4)] 1 rfl (by omega), held_alloc (Below.refl _ _)⟩
set_option maxRecDepth 100000 in
set_option maxHeartbeats 2000000 in
theorem plan_7 (w : World) : Calls Tryz.prog 46 #[.int .u8 7] w (RetPl w 7) := by
  go_enter Tryz.func46, Tryz.ntmps46
  go_wp2_with fail
  go_ret3
  exact ⟨_, rfl, SlP.new w [([], 4)] 1 rfl (by omega), held_alloc (Below.refl _ _)⟩
set_option maxRecDepth 100000 in
set_option maxHeartbeats 2000000 in
theorem plan_8 (w : World) : Calls Tryz.prog 46 #[.int .u8 8] w (RetPl w 8) := by
  go_enter Tryz.func46, Tryz.ntmps46
  go_wp2_with fail
  go_ret3
  exact ⟨_, rfl, SlP.new w [([], 4)] 1 rfl (by omega), held_alloc (Below.refl _ _)⟩
set_option maxRecDepth 100000 in
set_option maxHeartbeats 2000000 in
theorem plan_9 (w : World) : Calls Tryz.prog 46 #[.int .u8 9] w (RetPl w 9) := by
  go_enter Tryz.func46, Tryz.ntmps46
  go_wp2_with fail
  go_ret3
  refine ⟨_, rfl, ?_, ?_⟩
  · have this := SlP.new (w.alloc (.cells (flatP [([], 4)]).toArray 83)) [([], 4), (sPer, 6)] 2 rfl (by omega)
    have e : (w.alloc (.cells (flatP [([], 4)]).toArray 83)).heap.size = w.heap.size + 1 := by simp
    rw [e] at this
    exact SlH.mono this (fun b hb _ => by omega)
  · exact held_alloc (held_alloc (Below.refl _ _)) (by simp)
set_option maxRecDepth 100000 in
set_option maxHeartbeats 2000000 in
theorem plan_10 (w : World) : Calls Tryz.prog 46 #[.int .u8 10] w (RetPl w 10) := by
  go_enter Tryz.func46, Tryz.ntmps46
  go_wp2_with fail
  go_ret3
  refine ⟨_, rfl, ?_, ?_⟩
  · have this := SlP.new (w.alloc (.cells (flatP [([], 4)]).toArray 83)) [([], 2)] 1 rfl (by omega)
    have e : (w.alloc (.cells (flatP [([], 4)]).toArray 83)).heap.size = w.heap.size + 1 := by simp
    rw [e] at this
    exact SlH.mono this (fun b hb _ => by omega)
  · exact held_alloc (held_alloc (Below.refl _ _)) (by simp)
set_option maxRecDepth 100000 in
set_option maxHeartbeats 2000000 in
theorem plan_11 (w : World) : Calls Tryz.prog 46 #[.int .u8 11] w (RetPl w 11) := by
  go_enter Tryz.func46, Tryz.ntmps46
  go_wp2_with fail
  go_ret3
  refine ⟨_, rfl, ?_, ?_⟩
  · have this := SlP.new (w.alloc (.cells (flatP [([], 4)]).toArray 83)) [([], 1), (sWithin, 4)] 2 rfl (by omega)
    have e : (w.alloc (.cells (flatP [([], 4)]).toArray 83)).heap.size = w.heap.size + 1 := by simp
    rw [e] at this
    exact SlH.mono this (fun b hb _ => by omega)
  · exact held_alloc (held_alloc (Below.refl _ _)) (by simp)
set_option maxRecDepth 100000 in
set_option maxHeartbeats 2000000 in
theorem plan_12 (w : World) : Calls Tryz.prog 46 #[.int .u8 12] w (RetPl w 12) := by
  go_enter Tryz.func46, Tryz.ntmps46
  go_wp2_with fail
  go_ret3
  exact ⟨_, rfl, SlP.new w [([], 4)] 1 rfl (by omega), held_alloc (Below.refl _ _)⟩
set_option maxRecDepth 100000 in
set_option maxHeartbeats 2000000 in
theorem plan_x (w : World) (k : Nat) (hk : ¬ (1 ≤ k ∧ k ≤ 12)) : Calls Tryz.prog 46 #[.int .u8 (k : Int)] w (RetPl w k) := by
  have HR : Hid (kindW k = [] ∧ partsOf k = [] ∧ decide (1 ≤ k ∧ k ≤ 12) = false) := by
    refine ⟨?_, ?_, decide_eq_false hk⟩
    · unfold kindW; rw [if_neg (by omega), if_neg (by omega), if_neg (by omega), if_neg (by omega), if_neg (by omega), if_neg (by omega), if_neg (by omega), if_neg (by omega), if_neg (by omega), if_neg (by omega), if_neg (by omega), if_neg (by omega)]
    · unfold partsOf; rw [if_neg (by omega), if_neg (by omega), if_neg (by omega), if_neg (by omega), if_neg (by omega), if_neg (by omega), if_neg (by omega), if_neg (by omega), if_neg (by omega), if_neg (by omega), if_neg (by omega), if_neg (by omega)]
  have q1 : ((k : Int) == 1) = false := beq_eq_false_iff_ne.2 (by omega)
  have q2 : ((k : Int) == 2) = false := beq_eq_false_iff_ne.2 (by omega)
  have q3 : ((k : Int) == 3) = false := beq_eq_false_iff_ne.2 (by omega)
  have q4 : ((k : Int) == 4) = false := beq_eq_false_iff_ne.2 (by omega)
  have q5 : ((k : Int) == 5) = false := beq_eq_false_iff_ne.2 (by omega)
  have q6 : ((k : Int) == 6) = false := beq_eq_false_iff_ne.2 (by omega)
  have q7 : ((k : Int) == 7) = false := beq_eq_false_iff_ne.2 (by omega)
  have q8 : ((k : Int) == 8) = false := beq_eq_false_iff_ne.2 (by omega)
  have q9 : ((k : Int) == 9) = false := beq_eq_false_iff_ne.2 (by omega)
  have q10 : ((k : Int) == 10) = false := beq_eq_false_iff_ne.2 (by omega)
  have q11 : ((k : Int) == 11) = false := beq_eq_false_iff_ne.2 (by omega)
  have q12 : ((k : Int) == 12) = false := beq_eq_false_iff_ne.2 (by omega)
  clear hk
  unfold RetPl
  rw [HR.out.1, HR.out.2.1, HR.out.2.2]
  go_enter Tryz.func46, Tryz.ntmps46
  go_wp2_with fail
  go_ret3
  exact ⟨_, rfl, SlH.nil _ _ _ _, held_alloc (Below.refl _ _)⟩
theorem plan_c (w : World) (k : Nat) : Calls Tryz.prog 46 #[.int .u8 (k : Int)] w (RetPl w k) := by
  by_cases hk : 1 ≤ k ∧ k ≤ 12
  · match k, hk with
    | 1, _ => exact plan_1 w
    | 2, _ => exact plan_2 w
    | 3, _ => exact plan_3 w
    | 4, _ => exact plan_4 w
    | 5, _ => exact plan_5 w
    | 6, _ => exact plan_6 w
    | 7, _ => exact plan_7 w
    | 8, _ => exact plan_8 w
    | 9, _ => exact plan_9 w
    | 10, _ => exact plan_10 w
    | 11, _ => exact plan_11 w
    | 12, _ => exact plan_12 w
    | k + 13, h => exact absurd h (by omega)
  · exact plan_x w k hk
end Go.Proofs.YtganlldidjbpiaaGreatDoor

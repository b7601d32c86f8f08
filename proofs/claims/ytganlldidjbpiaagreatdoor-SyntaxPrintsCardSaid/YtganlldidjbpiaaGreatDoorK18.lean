/- Walks of package syntax: texts. -/
import Derived.Test.YtganlldidjbpiaaGreatDoorK17
import Derived.Test.YtganlldidjbpiaaGreatDoorK07
set_option linter.unusedVariables false
namespace Go.Proofs.YtganlldidjbpiaaGreatDoor
open Go.RowKit Go.Shelf

theorem OwnN.after {w W : World} {base : Nat} {v : Value} {l : List (List UInt8)} (h : OwnN w base v l) (hb : Below w.heap.size w W) : OwnN W base v l := h.fx (S := fun _ => False) (Fx.of_below hb) (fun _ e => e.elim)
theorem OwnN.alloc {w : World} {base : Nat} {v : Value} {l : List (List UInt8)} (h : OwnN w base v l) (o : Obj) : OwnN (w.alloc o) base v l := h.after (held_alloc (Below.refl _ _))
theorem OwnN.le {w : World} {base b : Nat} {v : Value} {l : List (List UInt8)} (h : OwnN w base v l) (hb : b ≤ base) : OwnN w b v l := ⟨h.1, h.2.1, Joins.ownsRow_le h.2.2 hb⟩
theorem SlN.oneA {g : Nat} (w : World) (n : List UInt8) (hn : n.length ≤ 9223372036854775807) (hg : w.heap.size = g) : SlN (fun _ => True) (w.alloc (.cells #[.string (bs n)] 9)) (.slice (some ⟨g, 0, none⟩) 1 1) [n] := hg ▸ SlN.one w n hn
theorem nameW_at (l : List (List UInt8)) (j : Nat) (h : j < l.length) : (if j = 0 then nameW l else commas (l.drop j)) = (if j = 0 then [] else [sComma]) ++ (l.getD j [] :: commas (l.drop (j + 1))) := by
  split
  · subst j
    cases l with
    | nil => exact absurd h (by simp)
    | cons n l => rfl
  · rw [List.getD_eq_getElem?_getD, List.getElem?_eq_getElem h, List.drop_eq_getElem_cons h]; rfl
theorem nameW_end (l : List (List UInt8)) : (if l.length = 0 then nameW l else commas (l.drop l.length)) = [] := by
  cases l with
  | nil => rfl
  | cons n l => rw [if_neg (by simp), List.drop_length]; rfl
theorem SlN.box {g : Nat} {w : World} {n : List UInt8} (hn : n.length ≤ 9223372036854775807) (h : Box w g #[.string (bs n)] 9) : SlN (fun _ => True) w (.slice (some ⟨g, 0, none⟩) 1 1) [n] := by
  refine ⟨by simpa using hn, some ⟨g, 0, none⟩, 1, rfl, Nat.le_refl _, by omega, (fun h => by cases h), fun _ => ⟨g, 0, rfl, trivial, h.lt, fun i hi j hj => ?_⟩⟩
  have hi : i < 1 := hi
  obtain rfl : i = 0 := by omega
  obtain rfl : j = 0 := by omega
  exact h.cell 0
theorem domW_len (d : Nat) : (domW d).length ≤ 10 := by
  unfold domW
  repeat (split; decide)
  decide
theorem scope_domW {d : Nat} (h : okDom d) : scopesL.getD (d - 1) [] = domW d := by
  have h' : d = 1 ∨ d = 2 ∨ d = 3 ∨ d = 4 ∨ d = 5 := by have := h.1; have := h.2; omega
  rcases h' with rfl | rfl | rfl | rfl | rfl <;> rfl
def RetW (w : World) (l : List (List UInt8)) (e : Ending) (w' : World) : Prop := ∃ v, e = .returned v ∧ OwnN w' w.heap.size v l ∧ Below w.heap.size w w'
theorem parts_fields (k : Nat) : ∀ i, i < (partsOf k).length → 1 ≤ ((partsOf k).getD i pt0).2 ∧ ((partsOf k).getD i pt0).2 ≤ 7 ∧ (((partsOf k).getD i pt0).2 = 7 → k = 1) := by
  by_cases h : k ≤ 12
  · have : ∀ k : Nat, k < 13 → ∀ i, i < (partsOf k).length → 1 ≤ ((partsOf k).getD i pt0).2 ∧ ((partsOf k).getD i pt0).2 ≤ 7 ∧ (((partsOf k).getD i pt0).2 = 7 → k = 1) := by decide
    exact this k (by omega)
  · intro i hi
    exfalso
    unfold partsOf at hi
    rw [if_neg (by omega), if_neg (by omega), if_neg (by omega), if_neg (by omega), if_neg (by omega), if_neg (by omega), if_neg (by omega), if_neg (by omega), if_neg (by omega), if_neg (by omega), if_neg (by omega), if_neg (by omega)] at hi
    exact absurd hi (by simp)
theorem parts_words (k : Nat) (p : List UInt8 × Nat) (h : p ∈ partsOf k) : p.1.length ≤ 6 := by
  by_cases hk : k ≤ 12
  · have : ∀ k : Nat, k < 13 → ∀ p ∈ partsOf k, p.1.length ≤ 6 := by decide
    exact this k (by omega) p h
  · exfalso
    unfold partsOf at h
    rw [if_neg (by omega), if_neg (by omega), if_neg (by omega), if_neg (by omega), if_neg (by omega), if_neg (by omega), if_neg (by omega), if_neg (by omega), if_neg (by omega), if_neg (by omega), if_neg (by omega), if_neg (by omega)] at h
    exact absurd h (by simp)
theorem drop_getD {α : Type} (l : List α) (i : Nat) (d : α) (hi : i < l.length) : l.drop i = l.getD i d :: l.drop (i + 1) := by
  rw [List.getD_eq_getElem?_getD, List.getElem?_eq_getElem hi]
  exact List.drop_eq_getElem_cons hi
def restP (c : Cl) (it : List (List UInt8)) (f : Nat) (ps : List (List UInt8 × Nat)) : List (List UInt8) := if f = 7 then sOpen :: (it ++ [sClose]) else fieldW c f ++ textsP c it ps
theorem textsP_cons (c : Cl) (it : List (List UInt8)) (p : List UInt8 × Nat) (ps : List (List UInt8 × Nat)) : textsP c it (p :: ps) = wordW p.1 ++ restP c it p.2 ps := by
  obtain ⟨x, f⟩ := p
  unfold textsP restP
  split <;> rfl
theorem kindW_len (k : Nat) : (kindW k).length ≤ 10 := by
  unfold kindW
  repeat (split; decide)
  decide
theorem numW_len {z : Int} (h : z ≤ 9223372036854775807) : (numW z).length ≤ 100 := by
  have := dd_len 20 z.toNat (by omega) (by omega)
  unfold numW
  omega
set_option maxRecDepth 100000 in
set_option maxHeartbeats 4000000 in
theorem texts_g (N : Nat) (D : Nat → Prop) (w : World) (c : Cl) (vn vi : Value) (g : Cl → List (List UInt8)) (h : HasC D w vn vi c) (hN : N ≤ w.heap.size) (he : Wds N w) (ht : Tab10 w)
    (hi0 : 0 ≤ c.idx) (ha0 : 0 ≤ c.a) (hb0 : 0 ≤ c.b) (hd : (∃ x, (x, 6) ∈ partsOf c.kind) → okDom c.dom) (hw : (textsG c (c.items.flatMap g)).length ≤ 100000)
    (hit : c.kind = 1 → ∀ (W : World), N ≤ W.heap.size → Wds N W → Tab10 W → ∀ x, x ∈ c.items → ∀ vn' vi', HasC D W vn' vi' x → Calls Tryz.prog 26 #[.agg (clV x vn' vi').toArray] W (RetW W (g x))) :
    Calls Tryz.prog 26 #[.agg (clV c vn vi).toArray] w (RetW w (textsG c (c.items.flatMap g))) := by
  obtain ⟨hnm, hnc, hic⟩ := hasC_iff.1 h
  obtain ⟨qn, cn, rfl, qn1, qn2, _⟩ := hnc.2.shape
  obtain ⟨qi, ci, rfl, qi1, qi2, _⟩ := hic.shape
  unfold clV
  obtain ⟨T, hT⟩ : ∃ T, textsG c (c.items.flatMap g) = T := ⟨_, rfl⟩
  obtain ⟨it, hI⟩ : ∃ it, c.items.flatMap g = it := ⟨_, rfl⟩
  rw [hT] at hw ⊢
  rw [hI] at hT
  have HT := Lib.hid hT
  have HIT := Lib.hid hI
  have HW := Lib.hid hw
  obtain ⟨W0, hW⟩ : ∃ W0, W0 = w.alloc (.cells #[.int .u8 (c.kind : Int), .slice qn c.names.length cn, .int .u8 (c.dom : Int), .int .i64 c.idx, .int .i64 c.a, .int .i64 c.b, .slice qi c.items.length ci, .int .i64 c.off] 43) := ⟨_, rfl⟩
  have hb0' : Below w.heap.size w W0 := hW ▸ held_alloc (Below.refl _ w)
  have bx0 : Box W0 w.heap.size #[.int .u8 (c.kind : Int), .slice qn c.names.length cn, .int .u8 (c.dom : Int), .int .i64 c.idx, .int .i64 c.a, .int .i64 c.b, .slice qi c.items.length ci, .int .i64 c.off] 43 := hW ▸ Box.new w _ _
  obtain ⟨k0, _⟩ := bx0.cells8
  have BX0 := Lib.hid bx0
  have HB0 := Lib.hid hb0'
  have HN0 := Lib.hid (hnc.fx (S := fun _ => False) (Fx.of_below hb0') (fun _ _ _ e => e))
  have HI0 := Lib.hid (hic.after hb0')
  have HE0 := Lib.hid (he.after hb0')
  have HT0 := Lib.hid (ht.after hb0')
  have HREC := Lib.hid hit
  have HNM := Lib.hid hnm
  have HZ := Lib.hid (And.intro hi0 (And.intro ha0 hb0))
  have HD := Lib.hid hd
  clear bx0 hb0' hnc hic h he hit hnm hT hI hw hi0 ha0 hb0 hd ht
  go_enter Tryz.func26, Tryz.ntmps26
  go_upto_region 1 with fail
  rw [← hW]
  clear hW
  go_wp2_with fail
  refine (plan_c W0 c.kind).mono ?_
  obtain ⟨okb, hokb⟩ : ∃ b, decide (1 ≤ c.kind ∧ c.kind ≤ 12) = b := ⟨_, rfl⟩
  unfold RetPl
  rw [hokb]
  clear hokb
  rintro e w1 ⟨vp, rfl, hpl, hb1⟩
  obtain ⟨qp, cp, hvp, qp1, qp2, _⟩ := hpl.shape
  subst hvp
  obtain ⟨ps, hps⟩ : ∃ ps, partsOf c.kind = ps := ⟨_, rfl⟩
  have HPF := Lib.hid (parts_fields c.kind)
  have HPW := Lib.hid (parts_words c.kind)
  rw [hps] at hpl HPF HPW HD qp1
  have HPS := Lib.hid hps
  have hT := HT.out
  unfold textsG at hT
  rw [hps] at hT ⊢
  clear HT
  obtain ⟨x0, hx0⟩ : ∃ x, kindW c.kind = x := ⟨_, rfl⟩
  have hxl := kindW_len c.kind
  rw [hx0] at hT hxl ⊢
  have HT := Lib.hid hT
  have HXL := Lib.hid hxl
  have HB1 := Lib.hid (HB0.out.trans (hb1.mono HB0.out.size))
  have BX1 := Lib.hid (BX0.out.after hb1)
  have HN1 := Lib.hid (HN0.out.fx (S := fun _ => False) (Fx.of_below hb1) (fun _ _ _ e => e))
  have HI1 := Lib.hid (HI0.out.after hb1)
  have HE1 := Lib.hid (HE0.out.after hb1)
  have HT1 := Lib.hid (HT0.out.after hb1)
  have HPL := Lib.hid hpl
  obtain ⟨Z0, hz0⟩ : ∃ z, w1.heap.size = z := ⟨_, rfl⟩
  have HZ0 := Lib.hid hz0
  have hsz1 : w.heap.size < w1.heap.size := (BX1.out).lt
  have HOW := Lib.hid (OwnN.one w1 Z0 x0 (by omega) (by omega))
  clear hps hT hx0 hxl hpl hb1 BX0 HB0 HN0 HI0 HE0 HT0 k0
  go_wp2_with fail
  go_loopg [6, 24] ps.length (fun gn t ti wx => ∃ (i : Nat) (r : List (List UInt8)), i ≤ ps.length ∧ gn = ps.length - i ∧ ti = .int .i64 (i : Int) ∧ Hid (r ++ textsP c it (ps.drop i) = T) ∧ Hid (OwnN wx Z0 t r) ∧ Hid (Below Z0 w1 wx))
  case atStart =>
    refine ⟨0, [x0], Nat.zero_le _, rfl, rfl, HT.out, ?_, ?_⟩
    · have h1 := HOW.out
      rw [HZ0.out] at h1
      exact h1
    · rw [← HZ0.out]; exact held_alloc (Below.refl _ _)
  case round =>
    obtain ⟨i, r, hi, rfl, rfl, hr, hown, hbl⟩ := hrel
    by_cases hlt : i < ps.length
    · obtain ⟨pt, ct, hpt, pt1, pt2, _⟩ := hown.out.shape
      subst hpt
      have hbw : Below w1.heap.size w1 wr := by rw [HZ0.out]; exact hbl.out
      obtain ⟨ba, oa, ca, ea, _, _, _, la, hca⟩ := SlH.at_ (SlP.after HPL.out hbw) (by omega)
      injection ea with ea _ ec
      subst ea ec
      obtain ⟨⟨x, f⟩, hp⟩ : ∃ p, ps.getD i pt0 = p := ⟨_, rfl⟩
      have y0 : wr.cell? ⟨ba, oa + i * 2, none⟩ = some (.string (bs x)) := by have := hca i hlt 0 (by omega); rw [hp] at this; exact this
      have y1 : wr.cell? ⟨ba, oa + i * 2 + 1, none⟩ = some (.int .u8 (f : Int)) := by have := hca i hlt 1 (by omega); rw [hp] at this; exact this
      have hf := HPF.out i hlt
      have hmem : (x, f) ∈ ps := by rw [← hp, List.getD_eq_getElem?_getD, List.getElem?_eq_getElem hlt]; exact List.getElem_mem hlt
      rw [hp] at hf
      have hxlen := HPW.out _ hmem
      simp only at hf hxlen
      have HF := Lib.hid hf
      have HMEM := Lib.hid hmem
      have HXLEN := Lib.hid hxlen
      obtain ⟨R, hR⟩ : ∃ R, ps.drop (i + 1) = R := ⟨_, rfl⟩
      have hr2 : r ++ (wordW x ++ restP c it f R) = T := by rw [← hr.out, drop_getD ps i pt0 hlt, hp, textsP_cons, hR]
      have HR2 := Lib.hid hr2
      have HRR := Lib.hid hR
      have hrl : r.length ≤ 100000 := by have := HW.out; rw [← hr2, List.length_append] at this; omega
      have HRL := Lib.hid hrl
      have hszr := hbl.out.size
      have hz1 : Z0 ≤ w1.heap.size := by rw [HZ0.out]; exact Nat.le_refl _
      have hzr : Z0 ≤ wr.heap.size := Nat.le_trans hz1 hszr
      have HBX := Lib.hid (BX1.out.after hbw)
      have il : (i : Int) < (ps.length : Int) := by omega
      have i0 : (0 : Int) ≤ (i : Int) := by omega
      clear hca hp hf hmem hr2 hR hrl hxlen hr hbw
      obtain ⟨bx, hbx⟩ : ∃ b, (bs x).toList.isEmpty = b := ⟨_, rfl⟩
      have HEM := Lib.hid hbx
      go_upto_if 30 with fail
      clear hbx
      go_cut [6] (fun t wx => ∃ r1, Hid (r1 ++ restP c it f R = T) ∧ Hid (OwnN wx Z0 t r1) ∧ Hid (Below Z0 w1 wx) ∧ Hid (wx.cell? ⟨wr.heap.size, 1, none⟩ = some (.int .u8 (f : Int))))
      case first =>
        have hb4 : Below wr.heap.size wr (wr.alloc (.cells #[.string (bs x), .int .u8 (f : Int)] 83)) := held_alloc (Below.refl _ _)
        have hx4 : Box (wr.alloc (.cells #[.string (bs x), .int .u8 (f : Int)] 83)) wr.heap.size #[.string (bs x), .int .u8 (f : Int)] 83 := Box.new _ _ _
        have HX4 := Lib.hid hx4
        have HB4 : Hid (Below Z0 w1 (wr.alloc (.cells #[.string (bs x), .int .u8 (f : Int)] 83))) := hbl.out.trans (hb4.mono hzr)
        have HOWN4 := Lib.hid (hown.out.after hb4)
        have HNB : Hid (∀ b, some b = (Value.slice pt r.length ct).ownBlock → b < wr.heap.size) := fun b e => (hown.out.2.lt b e).2
        clear hb4 hx4
        cases bx with
        | true =>
          have hx : x = [] := by have h := HEM.out; rw [list_bs] at h; exact List.isEmpty_iff.1 h
          have HXX := Lib.hid hx
          clear hx
          go_wp2_with fail
          go_meet
          case rel => exact ⟨r, by show _ = _; rw [← HR2.out]; unfold wordW; rw [if_pos HXX.out, List.nil_append], HOWN4.out, HB4.out, HX4.out.cell 1⟩
        | false =>
          have hx : ¬ x = [] := by intro e; have h := HEM.out; rw [list_bs, e] at h; exact absurd h (by simp)
          have HXX := Lib.hid hx
          clear hx
          go_wp2_with (at_builtin; refine wpList_appN rfl _ _ rfl Z0 _ _ r [x] rfl (HOWN4.out.alloc _) rfl (SlN.oneA _ x (by have := HXLEN.out; omega) (by simp)) ?d3 ?d4 ?_)
          case d3 => have := HRL.out; first | omega | (simp; omega)
          case d4 => first | omega | (simp; omega)
          intro v1 w4 hown5 hf5 hb5
          have HOWN5 := Lib.hid hown5
          have HC5 : Hid (w4.cell? ⟨wr.heap.size, 1, none⟩ = some (.int .u8 (f : Int))) := hf5.cell (HX4.out.after (held_alloc (Below.refl _ _)) |>.cell 1) (fun e => Nat.lt_irrefl _ (HNB.out _ e))
          have HB5 : Hid (Below Z0 w1 w4) := (HB4.out.alloc (by simp; omega) _).trans hb5
          clear hown5 hf5 hb5
          go_wp2_with fail
          go_meet
          case rel => exact ⟨_, by show _ = _; rw [← HR2.out]; unfold wordW; rw [if_neg HXX.out, List.append_assoc], HOWN5.out, HB5.out, HC5.out⟩
      case rest =>
        obtain ⟨r1, hr1, hown1, hbl1, hcell⟩ := hcut
        have kf := hcell.out
        have hszc := hbl1.out.size
        have hzc : Z0 ≤ wc.heap.size := Nat.le_trans hz1 hszc
        have hbc : Below w1.heap.size w1 wc := by rw [HZ0.out]; exact hbl1.out
        have HBC := Lib.hid hbc
        have hr1l : r1.length ≤ 100000 := by have := HW.out; rw [← hr1.out, List.length_append] at this; omega
        obtain ⟨c0, c1, c2, c3, c4, c5, c6, c7⟩ := (BX1.out.after hbc).cells8
        have hlc := World.block_lt_of_cell? _ _ c0
        have hlf := World.block_lt_of_cell? _ _ kf
        simp only at hlc hlf
        clear hbc hcell y0 y1 hown hbl HBX
        have hf := HF.out
        obtain hf1 | hf1 | hf1 | hf1 | hf1 | hf1 : (f = 1 ∨ f = 2) ∨ f = 3 ∨ f = 4 ∨ f = 5 ∨ f = 6 ∨ f = 7 := by omega
        · obtain rfl | rfl := hf1
          · obtain ⟨G, hG⟩ : ∃ G, r1 ++ nameW c.names = G := ⟨_, rfl⟩
            have HG := Lib.hid hG
            have HGT : Hid (G ++ textsP c it R = T) := by show _ = _; rw [← hG, ← hr1.out]; simp [restP, fieldW]
            have hgl : G.length ≤ 100000 := by have := HW.out; rw [← HGT.out, List.length_append] at this; omega
            have hnl : (c.names.length : Int) ≤ 9223372036854775807 := by omega
            clear hf hG hr1
            go_wp2_with fail
            go_loopg [6, 44] c.names.length (fun gn t tj wy => ∃ (j : Nat) (rq : List (List UInt8)), j ≤ c.names.length ∧ gn = c.names.length - j ∧ tj = .int .i64 (j : Int) ∧ Hid (rq ++ (if j = 0 then nameW c.names else commas (c.names.drop j)) = G) ∧ Hid (OwnN wy Z0 t rq) ∧ Hid (Below Z0 w1 wy))
            case atStart => exact ⟨0, r1, Nat.zero_le _, rfl, rfl, HG.out, hown1.out, hbl1.out⟩
            case round =>
              clear kf c0 c1 c2 c3 c4 c5 c6 c7 hlc hlf
              obtain ⟨j, rq, hj, rfl, rfl, hq, hownq, hblq⟩ := hrel
              have hszq := hblq.out.size
              have hzq : Z0 ≤ wr.heap.size := Nat.le_trans hz1 hszq
              have hbq : Below w1.heap.size w1 wr := by rw [HZ0.out]; exact hblq.out
              obtain ⟨pq, cq, hpq, pq1, pq2, _⟩ := hownq.out.shape
              subst hpq
              by_cases hjl : j < c.names.length
              · obtain ⟨bn, on, cn', en, _, _, _, ln, hcn⟩ := HN1.out.2.at_ (by omega)
                injection en with en _ ec
                subst en ec
                have yn1 : w1.cell? ⟨bn, on + j, none⟩ = some (.string (bs (c.names.getD j []))) := by have := hcn j hjl 0 (by omega); simpa using this
                have hq2 := hq.out
                rw [nameW_at c.names j hjl] at hq2
                obtain ⟨n, hn⟩ : ∃ n, c.names.getD j [] = n := ⟨_, rfl⟩
                have hnn : n.length ≤ 9223372036854775807 := by rw [← hn, List.getD_eq_getElem?_getD, List.getElem?_eq_getElem hjl]; exact HN1.out.1 _ (List.getElem_mem hjl)
                rw [hn] at yn1 hq2
                have yn := keep_cell hbq yn1
                have YN1 := Lib.hid yn1
                have HQ2 := Lib.hid hq2
                have hql : rq.length + 2 ≤ 200000 := by rw [← hq2, List.length_append] at hgl; omega
                have HQL := Lib.hid hql
                have jl : (j : Int) < (c.names.length : Int) := by omega
                have j0 : (0 : Int) ≤ (j : Int) := by omega
                clear hcn hn hq hq2 yn1
                by_cases hj0 : 0 < j
                · have q : decide (0 < (j : Int)) = true := decide_eq_true (by omega)
                  have q' : (0 : Int) < (j : Int) := by omega
                  go_wp2_with (at_builtin; refine wpList_appN rfl _ _ rfl Z0 _ _ rq [sComma] rfl (hownq.out.alloc _) rfl (SlN.oneA _ sComma (by decide) (by simp)) ?d3 ?d4 ?_)
                  case d3 => first | omega | (simp; omega)
                  case d4 => first | omega | (simp; omega)
                  intro v2 w2 hown2 _ hb2
                  have HOWN2 := Lib.hid hown2
                  have HB2 : Hid (Below Z0 w1 w2) := (hblq.out.alloc hzq _).trans hb2
                  have hz2 : Z0 ≤ w2.heap.size := Nat.le_trans hz1 HB2.out.size
                  have y2 : w2.cell? ⟨bn, on + j, none⟩ = some (.string (bs n)) := keep_cell (by rw [HZ0.out]; exact HB2.out) YN1.out
                  obtain ⟨p2, k2, hp2, k21, k22, _⟩ := hown2.shape
                  subst hp2
                  clear hown2 hb2 yn hownq
                  go_wp2_with (at_builtin; refine wpList_appN rfl _ _ rfl Z0 _ _ (rq ++ [sComma]) [n] rfl (HOWN2.out.alloc _) rfl (SlN.oneA _ n hnn (by simp)) ?d3 ?d4 ?_)
                  case d3 => first | omega | (simp; omega)
                  case d4 => first | omega | (simp; omega)
                  intro v3 w3 hown3 _ hb3
                  have HOWN3 := Lib.hid hown3
                  have HB3 : Hid (Below Z0 w1 w3) := (HB2.out.alloc hz2 _).trans hb3
                  clear hown3 hb3
                  go_wp2_with fail
                  go_roundg (c.names.length - (j + 1))
                  case measure => omega
                  case rel => exact ⟨j + 1, _, by omega, rfl, by go_num, by show _ = _; rw [← HQ2.out, if_neg (by omega), if_neg (by omega)]; simp, HOWN3.out, HB3.out⟩
                · have q : decide (0 < (j : Int)) = false := decide_eq_false (by omega)
                  have q' : ¬ (0 : Int) < (j : Int) := by omega
                  go_wp2_with (at_builtin; refine wpList_appN rfl _ _ rfl Z0 _ _ rq [n] rfl (hownq.out.alloc _) rfl (SlN.oneA _ n hnn (by simp)) ?d3 ?d4 ?_)
                  case d3 => first | omega | (simp; omega)
                  case d4 => first | omega | (simp; omega)
                  intro v3 w3 hown3 _ hb3
                  have HOWN3 := Lib.hid hown3
                  have HB3 : Hid (Below Z0 w1 w3) := (hblq.out.alloc hzq _).trans hb3
                  clear hown3 hb3
                  go_wp2_with fail
                  go_roundg (c.names.length - (j + 1))
                  case measure => omega
                  case rel => exact ⟨j + 1, _, by omega, rfl, by go_num, by show _ = _; rw [← HQ2.out, if_neg (by omega), if_pos (by omega)]; simp, HOWN3.out, HB3.out⟩
              · obtain rfl : j = c.names.length := by omega
                have HE : Hid (rq = G) := by have := hq.out; rw [nameW_end, List.append_nil] at this; exact this
                clear hq hjl
                go_wp2_with fail
                go_roundg (ps.length - (i + 1))
                case measure => omega
                case rel => exact ⟨i + 1, rq, by omega, rfl, by go_num, by rw [HRR.out, HE.out]; exact HGT.out, hownq.out, hblq.out⟩
          · obtain ⟨G, hG⟩ : ∃ G, r1 ++ nameW c.names = G := ⟨_, rfl⟩
            have HG := Lib.hid hG
            have HGT : Hid (G ++ textsP c it R = T) := by show _ = _; rw [← hG, ← hr1.out]; simp [restP, fieldW]
            have hgl : G.length ≤ 100000 := by have := HW.out; rw [← HGT.out, List.length_append] at this; omega
            have hnl : (c.names.length : Int) ≤ 9223372036854775807 := by omega
            clear hf hG hr1
            go_wp2_with fail
            go_loopg [6, 44] c.names.length (fun gn t tj wy => ∃ (j : Nat) (rq : List (List UInt8)), j ≤ c.names.length ∧ gn = c.names.length - j ∧ tj = .int .i64 (j : Int) ∧ Hid (rq ++ (if j = 0 then nameW c.names else commas (c.names.drop j)) = G) ∧ Hid (OwnN wy Z0 t rq) ∧ Hid (Below Z0 w1 wy))
            case atStart => exact ⟨0, r1, Nat.zero_le _, rfl, rfl, HG.out, hown1.out, hbl1.out⟩
            case round =>
              clear kf c0 c1 c2 c3 c4 c5 c6 c7 hlc hlf
              obtain ⟨j, rq, hj, rfl, rfl, hq, hownq, hblq⟩ := hrel
              have hszq := hblq.out.size
              have hzq : Z0 ≤ wr.heap.size := Nat.le_trans hz1 hszq
              have hbq : Below w1.heap.size w1 wr := by rw [HZ0.out]; exact hblq.out
              obtain ⟨pq, cq, hpq, pq1, pq2, _⟩ := hownq.out.shape
              subst hpq
              by_cases hjl : j < c.names.length
              · obtain ⟨bn, on, cn', en, _, _, _, ln, hcn⟩ := HN1.out.2.at_ (by omega)
                injection en with en _ ec
                subst en ec
                have yn1 : w1.cell? ⟨bn, on + j, none⟩ = some (.string (bs (c.names.getD j []))) := by have := hcn j hjl 0 (by omega); simpa using this
                have hq2 := hq.out
                rw [nameW_at c.names j hjl] at hq2
                obtain ⟨n, hn⟩ : ∃ n, c.names.getD j [] = n := ⟨_, rfl⟩
                have hnn : n.length ≤ 9223372036854775807 := by rw [← hn, List.getD_eq_getElem?_getD, List.getElem?_eq_getElem hjl]; exact HN1.out.1 _ (List.getElem_mem hjl)
                rw [hn] at yn1 hq2
                have yn := keep_cell hbq yn1
                have YN1 := Lib.hid yn1
                have HQ2 := Lib.hid hq2
                have hql : rq.length + 2 ≤ 200000 := by rw [← hq2, List.length_append] at hgl; omega
                have HQL := Lib.hid hql
                have jl : (j : Int) < (c.names.length : Int) := by omega
                have j0 : (0 : Int) ≤ (j : Int) := by omega
                clear hcn hn hq hq2 yn1
                by_cases hj0 : 0 < j
                · have q : decide (0 < (j : Int)) = true := decide_eq_true (by omega)
                  have q' : (0 : Int) < (j : Int) := by omega
                  go_wp2_with (at_builtin; refine wpList_appN rfl _ _ rfl Z0 _ _ rq [sComma] rfl (hownq.out.alloc _) rfl (SlN.oneA _ sComma (by decide) (by simp)) ?d3 ?d4 ?_)
                  case d3 => first | omega | (simp; omega)
                  case d4 => first | omega | (simp; omega)
                  intro v2 w2 hown2 _ hb2
                  have HOWN2 := Lib.hid hown2
                  have HB2 : Hid (Below Z0 w1 w2) := (hblq.out.alloc hzq _).trans hb2
                  have hz2 : Z0 ≤ w2.heap.size := Nat.le_trans hz1 HB2.out.size
                  have y2 : w2.cell? ⟨bn, on + j, none⟩ = some (.string (bs n)) := keep_cell (by rw [HZ0.out]; exact HB2.out) YN1.out
                  obtain ⟨p2, k2, hp2, k21, k22, _⟩ := hown2.shape
                  subst hp2
                  clear hown2 hb2 yn hownq
                  go_wp2_with (at_builtin; refine wpList_appN rfl _ _ rfl Z0 _ _ (rq ++ [sComma]) [n] rfl (HOWN2.out.alloc _) rfl (SlN.oneA _ n hnn (by simp)) ?d3 ?d4 ?_)
                  case d3 => first | omega | (simp; omega)
                  case d4 => first | omega | (simp; omega)
                  intro v3 w3 hown3 _ hb3
                  have HOWN3 := Lib.hid hown3
                  have HB3 : Hid (Below Z0 w1 w3) := (HB2.out.alloc hz2 _).trans hb3
                  clear hown3 hb3
                  go_wp2_with fail
                  go_roundg (c.names.length - (j + 1))
                  case measure => omega
                  case rel => exact ⟨j + 1, _, by omega, rfl, by go_num, by show _ = _; rw [← HQ2.out, if_neg (by omega), if_neg (by omega)]; simp, HOWN3.out, HB3.out⟩
                · have q : decide (0 < (j : Int)) = false := decide_eq_false (by omega)
                  have q' : ¬ (0 : Int) < (j : Int) := by omega
                  go_wp2_with (at_builtin; refine wpList_appN rfl _ _ rfl Z0 _ _ rq [n] rfl (hownq.out.alloc _) rfl (SlN.oneA _ n hnn (by simp)) ?d3 ?d4 ?_)
                  case d3 => first | omega | (simp; omega)
                  case d4 => first | omega | (simp; omega)
                  intro v3 w3 hown3 _ hb3
                  have HOWN3 := Lib.hid hown3
                  have HB3 : Hid (Below Z0 w1 w3) := (hblq.out.alloc hzq _).trans hb3
                  clear hown3 hb3
                  go_wp2_with fail
                  go_roundg (c.names.length - (j + 1))
                  case measure => omega
                  case rel => exact ⟨j + 1, _, by omega, rfl, by go_num, by show _ = _; rw [← HQ2.out, if_neg (by omega), if_pos (by omega)]; simp, HOWN3.out, HB3.out⟩
              · obtain rfl : j = c.names.length := by omega
                have HE : Hid (rq = G) := by have := hq.out; rw [nameW_end, List.append_nil] at this; exact this
                clear hq hjl
                go_wp2_with fail
                go_roundg (ps.length - (i + 1))
                case measure => omega
                case rel => exact ⟨i + 1, rq, by omega, rfl, by go_num, by rw [HRR.out, HE.out]; exact HGT.out, hownq.out, hblq.out⟩
        · obtain rfl : f = 3 := hf1
          have HGT : Hid ((r1 ++ [numW c.idx]) ++ textsP c it R = T) := by show _ = _; rw [← hr1.out]; simp [restP, fieldW]
          have HT2 := Lib.hid (HT1.out.after HBC.out)
          clear hf hr1
          go_wp2_with fail
          refine (itoa_n wc c.idx HZ.out.1 (by obtain ⟨_, _, h3, h4, h5, _⟩ := HNM.out; exact h3.2) HT2.out).mono ?_
          rintro e w2 ⟨rfl, hb2⟩
          have HB2 : Hid (Below Z0 w1 w2) := hbl1.out.trans (hb2.mono hzc)
          have HOWN2 := Lib.hid (hown1.out.after hb2)
          have hsz2 : Z0 ≤ w2.heap.size := Nat.le_trans hz1 HB2.out.size
          clear kf c0 c1 c2 c3 c4 c5 c6 c7 hlc hlf hb2
          obtain ⟨d, hd⟩ : ∃ d, numW c.idx = d := ⟨_, rfl⟩
          have hdl : d.length ≤ 100 := by rw [← hd]; exact numW_len (by obtain ⟨_, _, h3, h4, h5, _⟩ := HNM.out; exact h3.2)
          rw [hd] at HGT ⊢
          clear hd
          go_wp2_with (at_builtin; refine wpList_appN rfl _ _ rfl Z0 _ _ r1 [d] rfl (HOWN2.out.alloc _) rfl (SlN.one w2 _ (by omega)) ?d3 ?d4 ?_)
          case d3 => first | omega | (simp; omega)
          case d4 => first | omega | (simp; omega)
          intro v3 w3 hown3 _ hb3
          have HOWN3 := Lib.hid hown3
          have HB3 : Hid (Below Z0 w1 w3) := (HB2.out.alloc hsz2 _).trans hb3
          clear hown3 hb3
          go_wp2_with fail
          go_roundg (ps.length - (i + 1))
          case measure => omega
          case rel => exact ⟨i + 1, _, by omega, rfl, by go_num, by rw [HRR.out]; exact HGT.out, HOWN3.out, HB3.out⟩
        · obtain rfl : f = 4 := hf1
          have HGT : Hid ((r1 ++ [numW c.a]) ++ textsP c it R = T) := by show _ = _; rw [← hr1.out]; simp [restP, fieldW]
          have HT2 := Lib.hid (HT1.out.after HBC.out)
          clear hf hr1
          go_wp2_with fail
          refine (itoa_n wc c.a HZ.out.2.1 (by obtain ⟨_, _, h3, h4, h5, _⟩ := HNM.out; exact h4.2) HT2.out).mono ?_
          rintro e w2 ⟨rfl, hb2⟩
          have HB2 : Hid (Below Z0 w1 w2) := hbl1.out.trans (hb2.mono hzc)
          have HOWN2 := Lib.hid (hown1.out.after hb2)
          have hsz2 : Z0 ≤ w2.heap.size := Nat.le_trans hz1 HB2.out.size
          clear kf c0 c1 c2 c3 c4 c5 c6 c7 hlc hlf hb2
          obtain ⟨d, hd⟩ : ∃ d, numW c.a = d := ⟨_, rfl⟩
          have hdl : d.length ≤ 100 := by rw [← hd]; exact numW_len (by obtain ⟨_, _, h3, h4, h5, _⟩ := HNM.out; exact h4.2)
          rw [hd] at HGT ⊢
          clear hd
          go_wp2_with (at_builtin; refine wpList_appN rfl _ _ rfl Z0 _ _ r1 [d] rfl (HOWN2.out.alloc _) rfl (SlN.one w2 _ (by omega)) ?d3 ?d4 ?_)
          case d3 => first | omega | (simp; omega)
          case d4 => first | omega | (simp; omega)
          intro v3 w3 hown3 _ hb3
          have HOWN3 := Lib.hid hown3
          have HB3 : Hid (Below Z0 w1 w3) := (HB2.out.alloc hsz2 _).trans hb3
          clear hown3 hb3
          go_wp2_with fail
          go_roundg (ps.length - (i + 1))
          case measure => omega
          case rel => exact ⟨i + 1, _, by omega, rfl, by go_num, by rw [HRR.out]; exact HGT.out, HOWN3.out, HB3.out⟩
        · obtain rfl : f = 5 := hf1
          have HGT : Hid ((r1 ++ [numW c.b]) ++ textsP c it R = T) := by show _ = _; rw [← hr1.out]; simp [restP, fieldW]
          have HT2 := Lib.hid (HT1.out.after HBC.out)
          clear hf hr1
          go_wp2_with fail
          refine (itoa_n wc c.b HZ.out.2.2 (by obtain ⟨_, _, h3, h4, h5, _⟩ := HNM.out; exact h5.2) HT2.out).mono ?_
          rintro e w2 ⟨rfl, hb2⟩
          have HB2 : Hid (Below Z0 w1 w2) := hbl1.out.trans (hb2.mono hzc)
          have HOWN2 := Lib.hid (hown1.out.after hb2)
          have hsz2 : Z0 ≤ w2.heap.size := Nat.le_trans hz1 HB2.out.size
          clear kf c0 c1 c2 c3 c4 c5 c6 c7 hlc hlf hb2
          obtain ⟨d, hd⟩ : ∃ d, numW c.b = d := ⟨_, rfl⟩
          have hdl : d.length ≤ 100 := by rw [← hd]; exact numW_len (by obtain ⟨_, _, h3, h4, h5, _⟩ := HNM.out; exact h5.2)
          rw [hd] at HGT ⊢
          clear hd
          go_wp2_with (at_builtin; refine wpList_appN rfl _ _ rfl Z0 _ _ r1 [d] rfl (HOWN2.out.alloc _) rfl (SlN.one w2 _ (by omega)) ?d3 ?d4 ?_)
          case d3 => first | omega | (simp; omega)
          case d4 => first | omega | (simp; omega)
          intro v3 w3 hown3 _ hb3
          have HOWN3 := Lib.hid hown3
          have HB3 : Hid (Below Z0 w1 w3) := (HB2.out.alloc hsz2 _).trans hb3
          clear hown3 hb3
          go_wp2_with fail
          go_roundg (ps.length - (i + 1))
          case measure => omega
          case rel => exact ⟨i + 1, _, by omega, rfl, by go_num, by rw [HRR.out]; exact HGT.out, HOWN3.out, HB3.out⟩
        · obtain rfl : f = 6 := hf1
          have hdom : okDom c.dom := HD.out ⟨x, HMEM.out⟩
          have hdw0 := domW_len c.dom
          obtain ⟨dw, hdw⟩ : ∃ d, domW c.dom = d := ⟨_, rfl⟩
          have HGT : Hid ((r1 ++ [dw]) ++ textsP c it R = T) := by show _ = _; rw [← hr1.out, ← hdw]; simp [restP, fieldW]
          rw [hdw] at hdw0
          have HDW := Lib.hid hdw0
          obtain ⟨kk, hkk⟩ : ∃ k, k = c.dom - 1 := ⟨_, rfl⟩
          have hkl : kk < 5 := by have := hdom.2; have := hdom.1; omega
          have HKL := Lib.hid hkl
          have HKK : Hid (domI c.dom = (kk : Int)) := by show _ = _; unfold domI; rw [if_pos (by exact hdom)]; have := hdom.1; omega
          have hsd : scopesL.getD kk [] = dw := by rw [← hdw, hkk]; exact scope_domW hdom
          obtain ⟨p1, k1, hp1, k11, k12, _⟩ := hown1.out.shape
          subst hp1
          have HE2 := Lib.hid (HE1.out.after HBC.out)
          obtain ⟨vs, gs0, gsl, hvs⟩ := HE2.out.2.1
          obtain ⟨vd, gd0, gdl, hvd⟩ := HE2.out.2.2
          obtain ⟨bt, ot, ct2, evs, t1, t2, _, tl, tat⟩ := hvs.2.at_ (by decide)
          obtain ⟨bd, od, cd, evd, u1, u2, _, ul, _⟩ := hvd.at_ (by omega)
          subst evs evd
          have HDM := Lib.hid hvd
          have hsc : wc.cell? ⟨bt, ot + kk, none⟩ = some (.string (bs dw)) := by have := tat kk hkl 0 (by omega); rw [hsd] at this; simpa using this
          obtain ⟨C, hC⟩ : ∃ C, C = w.heap.size := ⟨_, rfl⟩
          rw [← hC] at c2
          have hlc2 : C < wc.heap.size := by omega
          rw [show scopesL.length = 5 from rfl] at gs0
          clear hf hr1 tat hvs hvd hsd hdw hkk hdom HE2 c0 c1 c3 c4 c5 c6 c7 hlc
          go_wp2_with fail
          rw [← hC]
          have HCC := Lib.hid hC
          clear hC
          refine wp_gj_tail (S := SKS (S := (fun _ => False)) (fun κ => match κ with | 0 => KS.eq (.slice p1 r1.length k1) | 1 => KS.eq (.slice (some ⟨bt, ot, none⟩) 5 ct2) | 2 => KS.eq (.slice (some ⟨bd, od, none⟩) 5 cd) | 3 => KS.eq (.pointer (some ⟨C, 2, none⟩)) | 4 => KS.eq (.int .u8 (c.dom : Int)) | 5 => KS.eq (.int .i64 (kk : Int)) | 6 => KS.eq (.pointer (some ⟨bt, ot + kk, none⟩)) | 7 => KS.eq (.string (bs dw)) | 8 => KS.blk wc.heap.size #[.string (bs dw)] 9 (fun _ e => e.elim) | _ => KS.any)) (C := fun _ f w => f 6 = .slice p1 r1.length k1 ∧ Below wc.heap.size wc w) 9 (by kernel_rfl) (by decide) (by kernel_rfl) (by kernel_rfl) ?_ ?_ (GJ.start ⟨rfl, below_dr (Below.refl _ _)⟩)
          · intro listed a w9 i hin hr hj
            obtain ⟨hi12, hun, _, _, _⟩ := ready_mem hr
            have h12 : i ∈ List.range 9 := List.mem_range.2 hin
            simp only [List.range, List.range.loop, List.mem_cons, List.not_mem_nil, or_false] at h12
            obtain ⟨f, hae, hcm, hf⟩ := hj.opened [85, 86, 87, 88, 89, 90, 91, 92, 93, 94, 6] (by kernel_rfl)
            simp only [List.foldl_cons, List.foldl_nil, List.setIfInBounds_toArray, List.set_cons_zero, List.set_cons_succ] at hae
            subst hae
            obtain ⟨h6, hcm⟩ : f 6 = .slice p1 r1.length k1 ∧ Below wc.heap.size wc w9 := hcm
            replace h6 := Lib.hid h6
            rcases h12 with rfl | rfl | rfl | rfl | rfl | rfl | rfl | rfl | rfl
            · have e1 : f 6 = .slice p1 r1.length k1 := h6.out
              refine GJ.op hj (by kernel_rfl) hr rfl [85, 86, 87, 88, 89, 90, 91, 92, 93, 94, 6] (by kernel_rfl) (fun K hK => ?_)
              simp only [Act.put, List.setIfInBounds_toArray] at hK ⊢
              clear hj hf
              rw [e1] at hK ⊢
              clear e1
              go_simp
              exact hK _ _ (fun k v _ _ h => h) (fun t ht => rfl) ⟨by first | exact h6.out | rfl, hcm.trans ((Below.refl _ _).mono hcm.size)⟩
            · have kc := keep_cell hcm gs0
              refine GJ.op hj (by kernel_rfl) hr rfl [85, 86, 87, 88, 89, 90, 91, 92, 93, 94, 6] (by kernel_rfl) (fun K hK => ?_)
              simp only [Act.put, List.setIfInBounds_toArray] at hK ⊢
              clear hj hf
              go_simp
              exact hK _ _ (fun k v _ _ h => h) (fun t ht => rfl) ⟨by first | exact h6.out | rfl, hcm.trans ((Below.refl _ _).mono hcm.size)⟩
            · have kc := keep_cell hcm gd0
              refine GJ.op hj (by kernel_rfl) hr rfl [85, 86, 87, 88, 89, 90, 91, 92, 93, 94, 6] (by kernel_rfl) (fun K hK => ?_)
              simp only [Act.put, List.setIfInBounds_toArray] at hK ⊢
              clear hj hf
              go_simp
              exact hK _ _ (fun k v _ _ h => h) (fun t ht => rfl) ⟨by first | exact h6.out | rfl, hcm.trans ((Below.refl _ _).mono hcm.size)⟩
            · refine GJ.op hj (by kernel_rfl) hr rfl [85, 86, 87, 88, 89, 90, 91, 92, 93, 94, 6] (by kernel_rfl) (fun K hK => ?_)
              simp only [Act.put, List.setIfInBounds_toArray] at hK ⊢
              clear hj hf
              go_simp
              exact hK _ _ (fun k v _ _ h => h) (fun t ht => rfl) ⟨by first | exact h6.out | rfl, hcm.trans ((Below.refl _ _).mono hcm.size)⟩
            · have e1 : f 88 = .pointer (some ⟨C, 2, none⟩) := hf 3 _ _ rfl rfl (up_dep hr (by kernel_rfl))
              have kc : w9.cell? ⟨C, 2, none⟩ = some (.int .u8 (c.dom : Int)) := keep_cell hcm c2
              have klt := World.block_lt_of_cell? _ _ kc
              simp only at klt
              refine GJ.op hj (by kernel_rfl) hr rfl [85, 86, 87, 88, 89, 90, 91, 92, 93, 94, 6] (by kernel_rfl) (fun K hK => ?_)
              simp only [Act.put, List.setIfInBounds_toArray] at hK ⊢
              clear hj hf
              rw [e1] at hK ⊢
              clear e1
              go_simp
              exact hK _ _ (fun k v _ _ h => h) (fun t ht => rfl) ⟨by first | exact h6.out | rfl, hcm.trans ((Below.refl _ _).mono hcm.size)⟩
            · have e1 : f 87 = .slice (some ⟨bd, od, none⟩) 5 cd := hf 2 _ _ rfl rfl (up_dep hr (by kernel_rfl))
              have e2 : f 89 = .int .u8 (c.dom : Int) := hf 4 _ _ rfl rfl (up_dep hr (by kernel_rfl))
              refine GJ.op hj (by kernel_rfl) hr rfl [85, 86, 87, 88, 89, 90, 91, 92, 93, 94, 6] (by kernel_rfl) (fun K hK => ?_)
              simp only [Act.put, List.setIfInBounds_toArray] at hK ⊢
              clear hj hf
              rw [e1, e2] at hK ⊢
              clear e1 e2
              go_simp
              refine (indexD_c _ w9 _ c.dom (SlH.after HDM.out hcm)).mono ?_
              rw [HKK.out]
              rintro e w10 ⟨rfl, hb10⟩
              exact hK _ _ (fun k v _ _ h => KS.st _ _ _ _ (Fx.of_below hb10) h) (fun t ht => rfl) ⟨by first | exact h6.out | rfl, hcm.trans (hb10.mono hcm.size)⟩
            · have e1 : f 86 = .slice (some ⟨bt, ot, none⟩) 5 ct2 := hf 1 _ _ rfl rfl (up_dep hr (by kernel_rfl))
              have e2 : f 90 = .int .i64 (kk : Int) := hf 5 _ _ rfl rfl (up_dep hr (by kernel_rfl))
              have kl := HKL.out
              have kl2 : (kk : Int) < 5 := by omega
              have kl3 : (0 : Int) ≤ (kk : Int) := by omega
              refine GJ.op hj (by kernel_rfl) hr rfl [85, 86, 87, 88, 89, 90, 91, 92, 93, 94, 6] (by kernel_rfl) (fun K hK => ?_)
              simp only [Act.put, List.setIfInBounds_toArray] at hK ⊢
              clear hj hf
              rw [e1, e2] at hK ⊢
              clear e1 e2
              go_simp
              exact hK _ _ (fun k v _ _ h => h) (fun t ht => rfl) ⟨by first | exact h6.out | rfl, hcm.trans ((Below.refl _ _).mono hcm.size)⟩
            · have e1 : f 91 = .pointer (some ⟨bt, ot + kk, none⟩) := hf 6 _ _ rfl rfl (up_dep hr (by kernel_rfl))
              have kc := keep_cell hcm hsc
              refine GJ.op hj (by kernel_rfl) hr rfl [85, 86, 87, 88, 89, 90, 91, 92, 93, 94, 6] (by kernel_rfl) (fun K hK => ?_)
              simp only [Act.put, List.setIfInBounds_toArray] at hK ⊢
              clear hj hf
              rw [e1] at hK ⊢
              clear e1
              go_simp
              exact hK _ _ (fun k v _ _ h => h) (fun t ht => rfl) ⟨by first | exact h6.out | rfl, hcm.trans ((Below.refl _ _).mono hcm.size)⟩
            · have e1 : f 92 = .string (bs dw) := hf 7 _ _ rfl rfl (up_dep hr (by kernel_rfl))
              refine GJ.op hj (by kernel_rfl) hr rfl [85, 86, 87, 88, 89, 90, 91, 92, 93, 94, 6] (by kernel_rfl) (fun K hK => ?_)
              simp only [Act.put, List.setIfInBounds_toArray] at hK ⊢
              clear hj hf
              rw [e1] at hK ⊢
              clear e1
              go_simp
              exact hK _ _ (fun k v _ _ h => KS.st _ _ _ _ (Fx.of_below (held_alloc (Below.refl _ _))) h) (fun _ _ => ⟨_, hcm.size, rfl, Box.new _ _ _⟩) ⟨by first | exact h6.out | rfl, hcm.trans ((held_alloc (Below.refl _ _)).mono hcm.size)⟩
          · intro listed a w10 hu hj
            obtain ⟨f, rfl, hcm, hf⟩ := hj.opened [85, 86, 87, 88, 89, 90, 91, 92, 93, 94, 6] (by kernel_rfl)
            obtain ⟨h6, hcm⟩ : f 6 = .slice p1 r1.length k1 ∧ Below wc.heap.size wc w10 := hcm
            replace h6 := Lib.hid h6
            have E0 : f 85 = .slice p1 r1.length k1 := hf 0 _ _ rfl rfl (hu 0 (by omega))
            obtain ⟨g9, hg9, e9, hb9⟩ : ∃ g, wc.heap.size ≤ g ∧ f 93 = .slice (some ⟨g, 0, none⟩) 1 1 ∧ Box w10 g #[.string (bs dw)] 9 := hf 8 _ _ rfl rfl (hu 8 (by omega))
            have HOWN2 := Lib.hid (hown1.out.after hcm)
            have HB2 : Hid (Below Z0 w1 w10) := hbl1.out.trans (hcm.mono hzc)
            have hz2 : Z0 ≤ w10.heap.size := Nat.le_trans hz1 HB2.out.size
            have HSL := Lib.hid (SlN.box (by have := HDW.out; omega) hb9)
            clear hcm hf hj hu hb9 h6
            simp only [List.foldl_cons, List.foldl_nil, List.setIfInBounds_toArray, List.set_cons_zero, List.set_cons_succ]
            rw [E0, e9]
            clear E0 e9
            generalize f 86 = g86
            generalize f 87 = g87
            generalize f 88 = g88
            generalize f 89 = g89
            generalize f 90 = g90
            generalize f 91 = g91
            generalize f 92 = g92
            generalize f 94 = g94
            generalize f 6 = g6
            clear f
            simp only [List.drop_succ_cons, List.drop_zero]
            go_wp2_with (at_builtin; refine wpList_appN rfl _ _ rfl Z0 _ _ r1 [dw] rfl HOWN2.out rfl HSL.out ?d3 ?d4 ?_)
            case d3 => first | omega | (simp; omega)
            case d4 => first | omega | (simp; omega)
            intro v3 w3 hown3 _ hb3
            have HOWN3 := Lib.hid hown3
            have HB3 : Hid (Below Z0 w1 w3) := HB2.out.trans hb3
            clear hown3 hb3
            obtain rfl := HCC.out
            go_wp2_with fail
            go_roundg (ps.length - (i + 1))
            case measure => omega
            case rel => exact ⟨i + 1, _, by omega, rfl, by go_num, by rw [HRR.out]; exact HGT.out, HOWN3.out, HB3.out⟩
        · obtain rfl : f = 7 := hf1
          have hk1 : c.kind = 1 := hf.2.2 rfl
          have HK1 := Lib.hid hk1
          have HGT : Hid ((r1 ++ [sOpen]) ++ (c.items.flatMap g ++ [sClose]) = T) := by show _ = _; rw [HIT.out, ← hr1.out]; simp [restP]
          clear hf hr1 hk1
          have hil : (c.items.length : Int) ≤ 9223372036854775807 := by omega
          obtain ⟨p1, k1, hp1, k11, k12, _⟩ := hown1.out.shape
          subst hp1
          have C6 := Lib.hid c6
          go_wp2_with (at_builtin; refine wpList_appN rfl _ _ rfl Z0 _ _ r1 [sOpen] rfl (hown1.out.alloc _) rfl (SlN.oneA _ sOpen (by decide) (by simp)) ?d3 ?d4 ?_)
          case d3 => first | omega | (simp; omega)
          case d4 => first | omega | (simp; omega)
          intro v2 w2 hown2 _ hb2
          have HOWN2 := Lib.hid hown2
          have HB2 : Hid (Below Z0 w1 w2) := (hbl1.out.alloc hzc _).trans hb2
          have hc2 := ((BX1.out.after (show Below w1.heap.size w1 w2 by rw [HZ0.out]; exact HB2.out)).cells8).2.2.2.2.2.2.1
          have hl2 := World.block_lt_of_cell? _ _ hc2
          simp only at hl2
          clear hown2 hb2 kf c0 c1 c2 c3 c4 c5 c6 c7 hlc hlf C6 hown1
          go_wp2_with fail
          go_loopg [6, 103] c.items.length (fun gn t tj wy => ∃ (j : Nat) (rq : List (List UInt8)), j ≤ c.items.length ∧ gn = c.items.length - j ∧ tj = .int .i64 (j : Int) ∧ Hid (rq ++ ((c.items.drop j).flatMap g ++ [sClose]) = T) ∧ Hid (OwnN wy Z0 t rq) ∧ Hid (Below Z0 w1 wy))
          case atStart => exact ⟨0, _, Nat.zero_le _, rfl, rfl, HGT.out, HOWN2.out, HB2.out⟩
          case round =>
            clear hc2 hl2 HOWN2 HB2 HGT
            obtain ⟨j, rq, hj, rfl, rfl, hq, hownq, hblq⟩ := hrel
            have hszq := hblq.out.size
            have hzq : Z0 ≤ wr.heap.size := Nat.le_trans hz1 hszq
            obtain ⟨pq, cq, hpq, pq1, pq2, _⟩ := hownq.out.shape
            subst hpq
            by_cases hjl : j < c.items.length
            · have hbq : Below w1.heap.size w1 wr := by rw [HZ0.out]; exact hblq.out
              obtain ⟨bi, oi, ci', ei, _, _, _, li, hci⟩ := (HI1.out.after hbq).at_ (by omega)
              injection ei with ei _ ec
              subst ei ec
              obtain ⟨vn', vi', hhc, hcc⟩ := hci j hjl
              have hmem : c.items.getD j cl0 ∈ c.items := by rw [List.getD_eq_getElem?_getD, List.getElem?_eq_getElem hjl]; exact List.getElem_mem hjl
              have hq2 := hq.out
              rw [drop_getD c.items j cl0 hjl] at hq2
              obtain ⟨x', hx'⟩ : ∃ x, c.items.getD j cl0 = x := ⟨_, rfl⟩
              rw [hx'] at hhc hcc hmem hq2
              obtain ⟨_, hn', hi'⟩ := hasC_iff.1 hhc
              obtain ⟨pn', kn', hpn', n1', n2', _⟩ := hn'.2.shape
              obtain ⟨pi', ki', hpi', i1', i2', _⟩ := hi'.shape
              subst hpn' hpi'
              have HQ2 : Hid ((rq ++ g x') ++ ((c.items.drop (j + 1)).flatMap g ++ [sClose]) = T) := by show _ = _; rw [← hq2]; simp
              have hql : rq.length + (g x').length ≤ 100000 := by have := HW.out; rw [← HQ2.out, List.length_append, List.length_append] at this; omega
              have HQL := Lib.hid hql
              have HHC := Lib.hid hhc
              have HMM := Lib.hid hmem
              have jl : (j : Int) < (c.items.length : Int) := by omega
              have j0 : (0 : Int) ≤ (j : Int) := by omega
              obtain ⟨d0, d1, d2, d3, d4, d5, d6, d7⟩ := hcc
              obtain ⟨W1, hW1⟩ : ∃ W1, W1 = wr.alloc (.cells #[.int .u8 (x'.kind : Int), .slice pn' x'.names.length kn', .int .u8 (x'.dom : Int), .int .i64 x'.idx, .int .i64 x'.a, .int .i64 x'.b, .slice pi' x'.items.length ki', .int .i64 x'.off] 43) := ⟨_, rfl⟩
              have hb5 : Below wr.heap.size wr W1 := hW1 ▸ held_alloc (Below.refl _ wr)
              have bx5 : Box W1 wr.heap.size #[.int .u8 (x'.kind : Int), .slice pn' x'.names.length kn', .int .u8 (x'.dom : Int), .int .i64 x'.idx, .int .i64 x'.a, .int .i64 x'.b, .slice pi' x'.items.length ki', .int .i64 x'.off] 43 := hW1 ▸ Box.new wr _ _
              have BX5 := Lib.hid bx5
              have HB5 : Hid (Below Z0 w1 W1) := hblq.out.trans (hb5.mono hzq)
              have hbq5 : Below w1.heap.size w1 W1 := by rw [HZ0.out]; exact HB5.out
              have HOWN5 := Lib.hid (hownq.out.after hb5)
              have hz5 : Z0 ≤ W1.heap.size := Nat.le_trans hzq hb5.size
              have HC : Hid (Calls Tryz.prog 26 #[.agg #[.int .u8 (x'.kind : Int), .slice pn' x'.names.length kn', .int .u8 (x'.dom : Int), .int .i64 x'.idx, .int .i64 x'.a, .int .i64 x'.b, .slice pi' x'.items.length ki', .int .i64 x'.off]] W1 (RetW W1 (g x'))) :=
                HREC.out HK1.out W1 (by have := hbq5.size; omega) (HE1.out.after hbq5) (HT1.out.after hbq5) x' HMM.out _ _ (HasC.fx (S := fun _ => False) (Fx.of_below hb5) (fun _ _ _ e => e) x' HHC.out)
              clear hhc hmem hq2 hx' hn' hi' hb5 bx5 hbq5 hq hownq HHC HMM hql
              go_upto_region 31 with fail
              rw [← hW1]
              clear hW1 d0 d1 d2 d3 d4 d5 d6 d7
              obtain ⟨d0, d1, d2, d3, d4, d5, d6, d7⟩ := BX5.out.cells8
              have dl := BX5.out.lt
              go_wp2_with fail
              refine HC.out.mono ?_
              rintro e w6 ⟨v6, rfl, hown6, hb6⟩
              have HB6 : Hid (Below Z0 w1 w6) := HB5.out.trans (hb6.mono hz5)
              have hz6 : Z0 ≤ w6.heap.size := Nat.le_trans hz5 hb6.size
              have HOWN6 := Lib.hid (HOWN5.out.after hb6)
              have HSL6 := Lib.hid hown6.slN
              have hql := HQL.out
              clear hown6 hb6 d0 d1 d2 d3 d4 d5 d6 d7 dl BX5
              go_wp2_with (at_builtin; refine wpList_appN rfl _ _ rfl Z0 _ _ rq (g x') rfl HOWN6.out rfl HSL6.out ?d3 ?d4 ?_)
              case d3 => first | omega | (simp; omega)
              case d4 => first | omega | (simp; omega)
              intro v3 w3 hown3 _ hb3
              have HOWN3 := Lib.hid hown3
              have HB3 : Hid (Below Z0 w1 w3) := HB6.out.trans hb3
              clear hown3 hb3
              go_wp2_with fail
              go_roundg (c.items.length - (j + 1))
              case measure => omega
              case rel => exact ⟨j + 1, _, by omega, rfl, by go_num, HQ2.out, HOWN3.out, HB3.out⟩
            · obtain rfl : j = c.items.length := by omega
              have HRT : Hid (rq ++ [sClose] = T) := by have := hq.out; rw [List.drop_length] at this; exact this
              have hql : rq.length ≤ 100000 := by have := HW.out; rw [← HRT.out, List.length_append] at this; omega
              clear hq hjl
              go_wp2_with (at_builtin; refine wpList_appN rfl _ _ rfl Z0 _ _ rq [sClose] rfl (hownq.out.alloc _) rfl (SlN.oneA _ sClose (by decide) (by simp)) ?d3 ?d4 ?_)
              case d3 => first | omega | (simp; omega)
              case d4 => first | omega | (simp; omega)
              intro v3 w3 hown3 _ hb3
              have HOWN3 := Lib.hid hown3
              have HB3 : Hid (Below Z0 w1 w3) := (hblq.out.alloc hzq _).trans hb3
              clear hown3 hb3
              go_wp2_with fail
              go_ret
              have hz : w.heap.size ≤ Z0 := by rw [← HZ0.out]; omega
              exact ⟨_, rfl, by rw [← HRT.out]; exact HOWN3.out.le hz, HB1.out.trans (HB3.out.mono hz)⟩
    · obtain rfl : i = ps.length := by omega
      have HRT : Hid (r ++ [sSemi] = T) := by have := hr.out; rw [List.drop_length] at this; exact this
      have hrl : r.length ≤ 100000 := by have := HW.out; rw [← HRT.out, List.length_append] at this; omega
      have hzr : Z0 ≤ wr.heap.size := Nat.le_trans (by rw [HZ0.out]; exact Nat.le_refl _) hbl.out.size
      clear hlt hr
      go_wp2_with (at_builtin; refine wpList_appN rfl _ _ rfl Z0 _ _ r [sSemi] rfl (hown.out.alloc _) rfl (SlN.one wr sSemi (by decide)) ?d3 ?d4 ?_)
      case d3 => first | omega | (simp; omega)
      case d4 => first | omega | (simp; omega)
      intro v3 w3 hown3 _ hb3
      have HOWN3 := Lib.hid hown3
      have HB3 : Hid (Below Z0 w1 w3) := (hbl.out.alloc hzr _).trans hb3
      clear hown3 hb3
      go_wp2_with fail
      go_ret
      have hz : w.heap.size ≤ Z0 := by rw [← HZ0.out]; omega
      exact ⟨_, rfl, by rw [← HRT.out]; exact HOWN3.out.le hz, HB1.out.trans (HB3.out.mono hz)⟩
end Go.Proofs.YtganlldidjbpiaaGreatDoor

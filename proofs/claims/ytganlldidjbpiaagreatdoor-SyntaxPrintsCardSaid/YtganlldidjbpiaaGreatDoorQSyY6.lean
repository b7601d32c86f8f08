/- Syntax, the reference: texts. -/
import Derived.Test.YtganlldidjbpiaaGreatDoorQSyY5
import Derived.Test.YtganlldidjbpiaaGreatDoorK22
set_option linter.unusedVariables false
namespace Go.Proofs.YtganlldidjbpiaaGreatDoor
open Go.RowKit Go.Shelf

theorem SlN.newL {g : Nat} (w : World) (l : List (List UInt8)) (hn : ∀ n ∈ l, n.length ≤ 9223372036854775807) (hl : l.length ≤ 1000) (hg : w.heap.size = g) : SlN (fun _ => True) (w.alloc (.cells (l.map fun n => Value.string (bs n)).toArray 9)) (.slice (some ⟨g, 0, none⟩) l.length l.length) l := hg ▸ SlN.boxL hn hl (Box.new w _ _)
theorem Fx.ofBase {B : Nat} {w W : World} (h : Below B w W) : Fx (fun b => B ≤ b) w W := ⟨h.os, h.tape, h.output, h.size, fun b _ hs => h.block b (Nat.lt_of_not_le hs)⟩
theorem cellB {B b o : Nat} {w W : World} {v : Value} (h : Below B w W) (hb : b < B) (hc : w.cell? ⟨b, o, none⟩ = some v) : W.cell? ⟨b, o, none⟩ = some v := (Fx.ofBase h).cell hc (fun e => absurd hb (Nat.not_lt.2 e))
/-- The words in the middle. -/
def midR (c : Cl) : List (List UInt8) :=
  if c.kind = 2 then [domW c.dom, numW c.idx, sFrom, numW c.a, sTo, numW c.b] else if c.kind = 3 then [domW c.dom, numW c.idx] else if c.kind = 5 then [sFeed, numW c.idx, sAt, numW c.a] else if c.kind = 9 then [numW c.a, sPer, domW c.dom] else if c.kind = 10 then nameW c.names else if c.kind = 11 then [c.names.headD [], sWithin, numW c.a] else [numW c.a]
/-- The words of a clause as the reference prints them, its items' words given. -/
def textsR (c : Cl) (it : List (List UInt8)) : List (List UInt8) :=
  if c.kind = 1 then [kindW c.kind, c.names.headD [], sOpen] ++ (it ++ [sClose]) else kindW c.kind :: (midR c ++ [sSemi])
set_option maxRecDepth 100000 in
set_option maxHeartbeats 16000000 in
theorem rtexts_g (D : Nat → Prop) (w : World) (c : Cl) (vn vi : Value) (g : Cl → List (List UInt8)) (h : HasC D w vn vi c) (hkk : 1 ≤ c.kind ∧ c.kind ≤ 12) (hi : okNum c.idx) (ha : okNum c.a) (hb : okNum c.b) (hne : c.kind = 1 ∨ c.kind = 11 → c.names ≠ [])
    (hw : (textsR c (c.items.flatMap g)).length ≤ 100000)
    (hit : c.kind = 1 → ∀ (W : World), ∀ x, x ∈ c.items → ∀ vn' vi', HasC D W vn' vi' x → Calls Tryz.prog 27 #[.agg (clV x vn' vi').toArray] W (RetW W (g x))) :
    Calls Tryz.prog 27 #[.agg (clV c vn vi).toArray] w (RetW w (textsR c (c.items.flatMap g))) := by
  obtain ⟨hnm, hnc, hic⟩ := hasC_iff.1 h
  have hncb := hnc.mono (D' := fun b => D b ∧ b < w.heap.size) (fun b hd hb => ⟨hd, hb⟩)
  have hicb := hic.mono (D' := fun b => D b ∧ b < w.heap.size) (fun b hd hb => ⟨hd, hb⟩)
  obtain ⟨qn, cn, rfl, qn1, qn2, _⟩ := hnc.2.shape
  obtain ⟨qi, ci, rfl, qi1, qi2, _⟩ := hic.shape
  have hdm : c.dom < 256 := hnm.2.1
  obtain ⟨ni, hni⟩ : ∃ n : Nat, c.idx = (n : Int) := ⟨c.idx.toNat, by have := hi.1; omega⟩
  obtain ⟨na, hna⟩ : ∃ n : Nat, c.a = (n : Int) := ⟨c.a.toNat, by have := ha.1; omega⟩
  obtain ⟨nb, hnb⟩ : ∃ n : Nat, c.b = (n : Int) := ⟨c.b.toNat, by have := hb.1; omega⟩
  have hni9 : ni ≤ 999999999 := by have := hi.2; omega
  have hna9 : na ≤ 999999999 := by have := ha.2; omega
  have hnb9 : nb ≤ 999999999 := by have := hb.2; omega
  have hkl := hkk.2
  have hkg := hkk.1
  unfold clV
  rw [hni, hna, hnb]
  obtain ⟨T, hT⟩ : ∃ T, textsR c (c.items.flatMap g) = T := ⟨_, rfl⟩
  rw [hT] at hw ⊢
  have HT := Lib.hid hT
  have HW := Lib.hid hw
  have HNI := Lib.hid hni
  have HNA := Lib.hid hna
  have HNB := Lib.hid hnb
  obtain ⟨W0, hW⟩ : ∃ W0, W0 = w.alloc (.cells #[.int .u8 (c.kind : Int), .slice qn c.names.length cn, .int .u8 (c.dom : Int), .int .i64 (ni : Int), .int .i64 (na : Int), .int .i64 (nb : Int), .slice qi c.items.length ci, .int .i64 c.off] 43) := ⟨_, rfl⟩
  have hb0 : Below w.heap.size w W0 := hW ▸ held_alloc (Below.refl _ w)
  have bx0 : Box W0 w.heap.size #[.int .u8 (c.kind : Int), .slice qn c.names.length cn, .int .u8 (c.dom : Int), .int .i64 (ni : Int), .int .i64 (na : Int), .int .i64 (nb : Int), .slice qi c.items.length ci, .int .i64 c.off] 43 := hW ▸ Box.new w _ _
  obtain ⟨k0, _⟩ := bx0.cells8
  have lx0 := bx0.lt
  have hwz0 : w.heap.size < W0.heap.size := lx0
  have BX0 := Lib.hid bx0
  have HB0 := Lib.hid hb0
  have HN0 := Lib.hid (hncb.fx (S := fun _ => False) (Fx.of_below hb0) (fun _ _ _ e => e))
  have HI0 := Lib.hid (hicb.after hb0)
  have HREC := Lib.hid hit
  have HNE := Lib.hid hne
  clear bx0 hb0 hnc hic h hit hnm hT hw hi ha hb hni hna hnb hncb hicb hkk
  go_enter Tryz.func27, Tryz.ntmps27
  go_upto_region 1 with fail
  rw [← hW]
  clear hW
  go_wp2_with fail
  refine (rword_c _ c.kind (by omega)).mono ?_
  rintro e w1 ⟨rfl, hb1⟩
  obtain ⟨x0, hx0⟩ : ∃ x, kindW c.kind = x := ⟨_, rfl⟩
  have hxl := kindW_len c.kind
  rw [hx0] at hxl ⊢
  have HX0 := Lib.hid hx0
  obtain ⟨Z0, hz0⟩ : ∃ z, w1.heap.size = z := ⟨_, rfl⟩
  have hwz1 := hb1.size
  have BX1 := Lib.hid (BX0.out.after hb1)
  have HB1 := Lib.hid (HB0.out.trans (hb1.mono HB0.out.size))
  have HN1 := Lib.hid (HN0.out.fx (S := fun _ => False) (Fx.of_below hb1) (fun _ _ _ e => e))
  have HI1 := Lib.hid (HI0.out.after hb1)
  clear hb1 BX0 HB0 HN0 HI0 k0 lx0
  obtain ⟨W2, hW2⟩ : ∃ W2, W2 = w1.alloc (.cells #[.string (bs x0)] 9) := ⟨_, rfl⟩
  have hb2 : Below w1.heap.size w1 W2 := hW2 ▸ held_alloc (Below.refl _ w1)
  have HOW := Lib.hid (OwnN.one w1 Z0 x0 (by omega) (by omega))
  rw [← hW2] at HOW
  have HBX := Lib.hid (BX1.out.after hb2)
  have HB2 := Lib.hid (HB1.out.trans (hb2.mono HB1.out.size))
  have HN := Lib.hid (HN1.out.fx (S := fun _ => False) (Fx.of_below hb2) (fun _ _ _ e => e))
  have HI := Lib.hid (HI1.out.after hb2)
  have hz2 : Z0 ≤ W2.heap.size := by have := hb2.size; omega
  have hz : w.heap.size ≤ Z0 := by omega
  have hzl : w.heap.size < Z0 := by omega
  clear hb2 BX1 HB1 HN1 HI1
  obtain ⟨v0, hv0⟩ : ∃ v, v = Value.slice (some ⟨w1.heap.size, 0, none⟩) 1 1 := ⟨_, rfl⟩
  have HOWN : Hid (OwnN W2 Z0 v0 [x0]) := by rw [hv0]; exact HOW.out
  have HNZ : Hid (∀ b o, qn = some ⟨b, o, none⟩ → 0 < c.names.length → b < Z0) := by
    intro b o e hl
    obtain ⟨b', o', cc, e', _, _, hd, _⟩ := HN.out.2.at_ hl
    subst e
    injection e' with e' _ _
    injection e' with e'
    injection e' with e1 _ _
    have := hd.2
    omega
  go_upto_region 2 with fail
  rw [hz0] at hv0
  rw [← hW2, ← hv0]
  clear hW2 hv0 HOW hz0 hx0
  obtain ⟨k0, _⟩ := HBX.out.cells8
  have lx0 := HBX.out.lt
  go_upto_region 4 with fail
  clear k0 lx0
  have hne := HNE.out
  obtain hk | hk | hk | hk | hk | hk | hk | hk : c.kind = 1 ∨ c.kind = 2 ∨ c.kind = 3 ∨ c.kind = 5 ∨ c.kind = 9 ∨ c.kind = 10 ∨ c.kind = 11 ∨ (c.kind ≠ 1 ∧ c.kind ≠ 2 ∧ c.kind ≠ 3 ∧ c.kind ≠ 5 ∧ c.kind ≠ 9 ∧ c.kind ≠ 10 ∧ c.kind ≠ 11) := by omega
  · have hln := hne (by omega)
    have hlp : 0 < c.names.length := List.length_pos_iff.2 hln
    obtain ⟨bn, on, cn', en, _, _, _, lnn, hcn⟩ := HN.out.2.at_ hlp
    injection en with en _ ec
    subst en ec
    obtain ⟨nm, hnm⟩ : ∃ n, c.names.headD [] = n := ⟨_, rfl⟩
    have hg0 : c.names.getD 0 [] = nm := by rw [← hnm]; cases hc : c.names with
      | nil => exact absurd hc hln
      | cons n l => rfl
    have x1 : W2.cell? ⟨bn, on, none⟩ = some (.string (bs nm)) := by have := hcn 0 hlp 0 (by omega); rw [hg0] at this; simpa using this
    have hnml : nm.length ≤ 9223372036854775807 := by rw [← hg0, List.getD_eq_getElem?_getD, List.getElem?_eq_getElem hlp]; exact HN.out.1 _ (List.getElem_mem hlp)
    clear hcn hg0
    have HK1 := Lib.hid hk
    have HGT : Hid ((([x0] ++ [nm, sOpen]) ++ (c.items.flatMap g ++ [sClose])) = T) := by show _ = _; rw [← HT.out]; unfold textsR; rw [HX0.out, hnm]; simp [hk]
    clear hnm
    have q1 : ((c.kind : Int) == 1) = true := beq_iff_eq.2 (by omega)
    clear hk
    obtain ⟨z0, z1, z2, z3, z4, z5, z6, z7⟩ := HBX.out.cells8
    have lx := HBX.out.lt
    have il0 : (0 : Int) < (c.names.length : Int) := by omega
    go_wp2_with (at_builtin; refine wpList_appN rfl _ _ rfl Z0 _ _ [x0] [nm, sOpen] rfl (HOWN.out.alloc _) rfl (SlN.newL _ [nm, sOpen] (by simp only [List.mem_cons, List.not_mem_nil, or_false]; rintro n (rfl | rfl); exact hnml; decide) (by simp) (by simp)) (by simp) ?d4 ?_)
    case d4 => first | omega | (simp; done) | (simp; omega)
    intro v3 w3 hown3 _ hb3
    have HO3 := Lib.hid hown3
    have HB3 : Hid (Below Z0 W2 w3) := ((Below.refl Z0 W2).alloc (by omega) _).trans hb3
    clear q1
    clear z0 z1 z2 z3 z4 z5 z6 z7 lx hown3 hb3 x1
    have hil : (c.items.length : Int) ≤ 9223372036854775807 := by omega
    go_wp2_with fail
    go_loopg [3, 4] c.items.length (fun gn t tj wy => ∃ (j : Nat) (rq : List (List UInt8)), j ≤ c.items.length ∧ gn = c.items.length - j ∧ tj = .int .i64 (j : Int) ∧ Hid (rq ++ ((c.items.drop j).flatMap g ++ [sClose]) = T) ∧ Hid (OwnN wy Z0 t rq) ∧ Hid (Below Z0 W2 wy))
    case atStart => exact ⟨0, _, Nat.zero_le _, rfl, rfl, HGT.out, HO3.out, HB3.out⟩
    case round =>
      clear HO3 HB3 HGT
      obtain ⟨j, rq, hj, rfl, rfl, hq, hownq, hblq⟩ := hrel
      have hszq := hblq.out.size
      have hzq : Z0 ≤ wr.heap.size := Nat.le_trans hz2 hszq
      have z6 : wr.cell? ⟨w.heap.size, 6, none⟩ = some (.slice qi c.items.length ci) := cellB hblq.out (by omega) (HBX.out.cell 6)
      have lx := World.block_lt_of_cell? _ _ z6
      simp only at lx
      obtain ⟨pq, cq, hpq, pq1, pq2, _⟩ := hownq.out.shape
      subst hpq
      by_cases hjl : j < c.items.length
      · have HIw := HI.out.fx (S := fun b => Z0 ≤ b) (Fx.ofBase hblq.out) (fun b hb hb2 e => by have := hb.2; have e : Z0 ≤ b := e; omega)
        obtain ⟨bi, oi, ci', ei, _, _, _, li, hci⟩ := HIw.at_ (by omega)
        injection ei with ei _ ec
        subst ei ec
        obtain ⟨vn', vi', hhc, hcc⟩ := hci j hjl
        have hmem : c.items.getD j cl0 ∈ c.items := by rw [List.getD_eq_getElem?_getD, List.getElem?_eq_getElem hjl]; exact List.getElem_mem hjl
        have hq2 := hq.out
        rw [drop_getD c.items j cl0 hjl] at hq2
        obtain ⟨x', hx'⟩ : ∃ x, c.items.getD j cl0 = x := ⟨_, rfl⟩
        rw [hx'] at hhc hcc hmem hq2
        obtain ⟨_, hn', hi'⟩ := hasC_iff.1 hhc
        obtain ⟨pn', kn', hpn', n1', n2', _⟩ := hn'.2.shape
        obtain ⟨pi', ki', hpi', i1', i2', _⟩ := hi'.shape
        subst hpn' hpi'
        have HQ2 : Hid ((rq ++ g x') ++ ((c.items.drop (j + 1)).flatMap g ++ [sClose]) = T) := by show _ = _; rw [← hq2]; simp
        have hql : rq.length + (g x').length ≤ 100000 := by have := HW.out; rw [← HQ2.out, List.length_append, List.length_append] at this; omega
        have HC := Lib.hid (HREC.out HK1.out wr x' hmem _ _ (HasC.mono (fun _ h _ => h.1) x' hhc))
        have jl : (j : Int) < (c.items.length : Int) := by omega
        have j0 : (0 : Int) ≤ (j : Int) := by omega
        obtain ⟨d0, d1, d2, d3, d4, d5, d6, d7⟩ := hcc
        clear hhc hmem hq2 hx' hn' hi' hq hci HIw
        go_wp2_with fail
        refine HC.out.mono ?_
        rintro e w6 ⟨v6, rfl, hown6, hb6⟩
        have HB6 : Hid (Below Z0 W2 w6) := hblq.out.trans (hb6.mono hzq)
        have hz6 : Z0 ≤ w6.heap.size := Nat.le_trans hz2 HB6.out.size
        have HOWN6 := Lib.hid (hownq.out.after hb6)
        have HSL6 := Lib.hid hown6.slN
        clear hown6 hb6 d0 d1 d2 d3 d4 d5 d6 d7 z6 lx
        go_wp2_with (at_builtin; refine wpList_appN rfl _ _ rfl Z0 _ _ rq (g x') rfl HOWN6.out rfl HSL6.out ?d3 ?d4 ?_)
        case d3 => first | omega | (simp; done) | (simp; omega)
        case d4 => first | omega | (simp; done) | (simp; omega)
        intro v3 w3 hown3 _ hb3
        have HOWN3 := Lib.hid hown3
        have HBz : Hid (Below Z0 W2 w3) := HB6.out.trans hb3
        clear hown3 hb3
        go_wp2_with fail
        go_roundg (c.items.length - (j + 1))
        case measure => omega
        case rel => exact ⟨j + 1, _, by omega, rfl, by go_num, HQ2.out, HOWN3.out, HBz.out⟩
      · obtain rfl : j = c.items.length := by omega
        have HTE : Hid (rq ++ [sClose] = T) := by have := hq.out; rw [List.drop_length] at this; exact this
        have hql : rq.length ≤ 100000 := by have := HW.out; rw [← HTE.out, List.length_append] at this; omega
        clear hq hjl
        go_wp2_with (at_builtin; refine wpList_appN rfl _ _ rfl Z0 _ _ rq [sClose] rfl (hownq.out.alloc _) rfl (SlN.oneA _ sClose (by decide) (by simp)) ?d3 ?d4 ?_)
        case d3 => first | omega | (simp; done) | (simp; omega)
        case d4 => first | omega | (simp; done) | (simp; omega)
        intro v4 w4 hown4 _ hb4
        have HO4 := Lib.hid hown4
        have HB4 : Hid (Below Z0 W2 w4) := (hblq.out.alloc (by omega) _).trans hb4
        clear hown4 hb4
        go_wp2_with fail
        go_ret
        exact ⟨_, rfl, by rw [← HTE.out]; exact HO4.out.le hz, HB2.out.trans (HB4.out.mono hz)⟩
  · have HTE : Hid (([x0] ++ [domW c.dom, dd ni, sFrom, dd na, sTo, dd nb]) ++ [sSemi] = T) := by show _ = _; rw [← HT.out]; unfold textsR midR; rw [HX0.out]; simp [hk, HNI.out, HNA.out, HNB.out, numW]
    have q1 : ((c.kind : Int) == 1) = false := beq_eq_false_iff_ne.2 (by omega)
    have q2 : ((c.kind : Int) == 2) = true := beq_iff_eq.2 (by omega)
    go_wp2_with fail
    clear q1 q2
    refine rtexts_r12 _ (by kernel_rfl) HBX.out HOWN.out (by simp) hz2 hdm hni9 hna9 hnb9 ?_
    intro w3 v3 y0 y1 y2 y3 y4 y5 y6 y7 y8 y9 y10 y11 y12 y13 y14 hown3 hb3
    have HOWN3 := Lib.hid hown3
    have HB3 := Lib.hid hb3
    have hz3 : Z0 ≤ w3.heap.size := Nat.le_trans hz2 hb3.size
    clear hown3 hb3
    go_wp2_with (at_builtin; refine wpList_appN rfl _ _ rfl Z0 _ _ ([x0] ++ [domW c.dom, dd ni, sFrom, dd na, sTo, dd nb]) [sSemi] rfl (HOWN3.out.alloc _) rfl (SlN.oneA _ sSemi (by decide) (by simp)) ?d3 ?d4 ?_)
    case d3 => first | omega | (simp; done) | (simp; omega)
    case d4 => first | omega | (simp; done) | (simp; omega)
    intro v4 w4 hown4 _ hb4
    have HO4 := Lib.hid hown4
    have HB4 : Hid (Below Z0 W2 w4) := (HB3.out.alloc (by omega) _).trans hb4
    clear hown4 hb4
    go_wp2_with fail
    go_ret
    exact ⟨_, rfl, by rw [← HTE.out]; exact HO4.out.le hz, HB2.out.trans (HB4.out.mono hz)⟩
  · have HTE : Hid (([x0] ++ [domW c.dom, dd ni]) ++ [sSemi] = T) := by show _ = _; rw [← HT.out]; unfold textsR midR; rw [HX0.out]; simp [hk, HNI.out, numW]
    have q1 : ((c.kind : Int) == 1) = false := beq_eq_false_iff_ne.2 (by omega)
    have q2 : ((c.kind : Int) == 2) = false := beq_eq_false_iff_ne.2 (by omega)
    have q3 : ((c.kind : Int) == 3) = true := beq_iff_eq.2 (by omega)
    go_wp2_with fail
    clear q1 q2 q3
    refine rtexts_r14 _ (by kernel_rfl) HBX.out HOWN.out (by simp) hz2 hdm hni9 ?_
    intro w3 v3 y0 y1 y2 y3 y4 y5 y6 y7 y8 hown3 hb3
    have HOWN3 := Lib.hid hown3
    have HB3 := Lib.hid hb3
    have hz3 : Z0 ≤ w3.heap.size := Nat.le_trans hz2 hb3.size
    clear hown3 hb3
    go_wp2_with (at_builtin; refine wpList_appN rfl _ _ rfl Z0 _ _ ([x0] ++ [domW c.dom, dd ni]) [sSemi] rfl (HOWN3.out.alloc _) rfl (SlN.oneA _ sSemi (by decide) (by simp)) ?d3 ?d4 ?_)
    case d3 => first | omega | (simp; done) | (simp; omega)
    case d4 => first | omega | (simp; done) | (simp; omega)
    intro v4 w4 hown4 _ hb4
    have HO4 := Lib.hid hown4
    have HB4 : Hid (Below Z0 W2 w4) := (HB3.out.alloc (by omega) _).trans hb4
    clear hown4 hb4
    go_wp2_with fail
    go_ret
    exact ⟨_, rfl, by rw [← HTE.out]; exact HO4.out.le hz, HB2.out.trans (HB4.out.mono hz)⟩
  · have HTE : Hid (([x0] ++ [sFeed, dd ni, sAt, dd na]) ++ [sSemi] = T) := by show _ = _; rw [← HT.out]; unfold textsR midR; rw [HX0.out]; simp [hk, HNI.out, HNA.out, numW]
    have q1 : ((c.kind : Int) == 1) = false := beq_eq_false_iff_ne.2 (by omega)
    have q2 : ((c.kind : Int) == 2) = false := beq_eq_false_iff_ne.2 (by omega)
    have q3 : ((c.kind : Int) == 3) = false := beq_eq_false_iff_ne.2 (by omega)
    have q5 : ((c.kind : Int) == 5) = true := beq_iff_eq.2 (by omega)
    go_wp2_with fail
    clear q1 q2 q3 q5
    refine rtexts_r16 _ (by kernel_rfl) HBX.out HOWN.out (by simp) hz2 hni9 hna9 ?_
    intro w3 v3 y0 y1 y2 y3 y4 y5 y6 y7 y8 hown3 hb3
    have HOWN3 := Lib.hid hown3
    have HB3 := Lib.hid hb3
    have hz3 : Z0 ≤ w3.heap.size := Nat.le_trans hz2 hb3.size
    clear hown3 hb3
    go_wp2_with (at_builtin; refine wpList_appN rfl _ _ rfl Z0 _ _ ([x0] ++ [sFeed, dd ni, sAt, dd na]) [sSemi] rfl (HOWN3.out.alloc _) rfl (SlN.oneA _ sSemi (by decide) (by simp)) ?d3 ?d4 ?_)
    case d3 => first | omega | (simp; done) | (simp; omega)
    case d4 => first | omega | (simp; done) | (simp; omega)
    intro v4 w4 hown4 _ hb4
    have HO4 := Lib.hid hown4
    have HB4 : Hid (Below Z0 W2 w4) := (HB3.out.alloc (by omega) _).trans hb4
    clear hown4 hb4
    go_wp2_with fail
    go_ret
    exact ⟨_, rfl, by rw [← HTE.out]; exact HO4.out.le hz, HB2.out.trans (HB4.out.mono hz)⟩
  · have HTE : Hid (([x0] ++ [dd na, sPer, domW c.dom]) ++ [sSemi] = T) := by show _ = _; rw [← HT.out]; unfold textsR midR; rw [HX0.out]; simp [hk, HNA.out, numW]
    have q1 : ((c.kind : Int) == 1) = false := beq_eq_false_iff_ne.2 (by omega)
    have q2 : ((c.kind : Int) == 2) = false := beq_eq_false_iff_ne.2 (by omega)
    have q3 : ((c.kind : Int) == 3) = false := beq_eq_false_iff_ne.2 (by omega)
    have q5 : ((c.kind : Int) == 5) = false := beq_eq_false_iff_ne.2 (by omega)
    have q9 : ((c.kind : Int) == 9) = true := beq_iff_eq.2 (by omega)
    go_wp2_with fail
    clear q1 q2 q3 q5 q9
    refine rtexts_r18 _ (by kernel_rfl) HBX.out HOWN.out (by simp) hz2 hdm hna9 ?_
    intro w3 v3 y0 y1 y2 y3 y4 y5 y6 y7 y8 hown3 hb3
    have HOWN3 := Lib.hid hown3
    have HB3 := Lib.hid hb3
    have hz3 : Z0 ≤ w3.heap.size := Nat.le_trans hz2 hb3.size
    clear hown3 hb3
    go_wp2_with (at_builtin; refine wpList_appN rfl _ _ rfl Z0 _ _ ([x0] ++ [dd na, sPer, domW c.dom]) [sSemi] rfl (HOWN3.out.alloc _) rfl (SlN.oneA _ sSemi (by decide) (by simp)) ?d3 ?d4 ?_)
    case d3 => first | omega | (simp; done) | (simp; omega)
    case d4 => first | omega | (simp; done) | (simp; omega)
    intro v4 w4 hown4 _ hb4
    have HO4 := Lib.hid hown4
    have HB4 : Hid (Below Z0 W2 w4) := (HB3.out.alloc (by omega) _).trans hb4
    clear hown4 hb4
    go_wp2_with fail
    go_ret
    exact ⟨_, rfl, by rw [← HTE.out]; exact HO4.out.le hz, HB2.out.trans (HB4.out.mono hz)⟩
  · obtain ⟨G, hG⟩ : ∃ G, [x0] ++ nameW c.names = G := ⟨_, rfl⟩
    have HG := Lib.hid hG
    have HTE : Hid (G ++ [sSemi] = T) := by show _ = _; rw [← hG, ← HT.out]; unfold textsR midR; rw [HX0.out]; simp [hk]
    have hgl : G.length ≤ 100000 := by have := HW.out; rw [← HTE.out, List.length_append] at this; omega
    clear hG
    have q1 : ((c.kind : Int) == 1) = false := beq_eq_false_iff_ne.2 (by omega)
    have q2 : ((c.kind : Int) == 2) = false := beq_eq_false_iff_ne.2 (by omega)
    have q3 : ((c.kind : Int) == 3) = false := beq_eq_false_iff_ne.2 (by omega)
    have q5 : ((c.kind : Int) == 5) = false := beq_eq_false_iff_ne.2 (by omega)
    have q9 : ((c.kind : Int) == 9) = false := beq_eq_false_iff_ne.2 (by omega)
    have q10 : ((c.kind : Int) == 10) = true := beq_iff_eq.2 (by omega)
    clear hk
    obtain ⟨z0, z1, z2, z3, z4, z5, z6, z7⟩ := HBX.out.cells8
    have lx := HBX.out.lt
    have hnl : (c.names.length : Int) ≤ 9223372036854775807 := by omega
    go_wp2_with fail
    clear q1 q2 q3 q5 q9 q10
    clear z0 z1 z2 z3 z4 z5 z6 z7 lx
    go_loopg [3, 5] c.names.length (fun gn t tj wy => ∃ (j : Nat) (rq : List (List UInt8)), j ≤ c.names.length ∧ gn = c.names.length - j ∧ tj = .int .i64 (j : Int) ∧ Hid (rq ++ (if j = 0 then nameW c.names else commas (c.names.drop j)) = G) ∧ Hid (OwnN wy Z0 t rq) ∧ Hid (Below Z0 W2 wy))
    case atStart => exact ⟨0, [x0], Nat.zero_le _, rfl, rfl, HG.out, HOWN.out, Below.refl _ _⟩
    case round =>
      obtain ⟨j, rq, hj, rfl, rfl, hq, hownq, hblq⟩ := hrel
      have hszq := hblq.out.size
      have hzq : Z0 ≤ wr.heap.size := Nat.le_trans hz2 hszq
      have z1 : wr.cell? ⟨w.heap.size, 1, none⟩ = some (.slice qn c.names.length cn) := cellB hblq.out (by omega) (HBX.out.cell 1)
      have lx := World.block_lt_of_cell? _ _ z1
      simp only at lx
      obtain ⟨pq, cq, hpq, pq1, pq2, _⟩ := hownq.out.shape
      subst hpq
      by_cases hjl : j < c.names.length
      · obtain ⟨bn, on, cn', en, _, _, _, lnn, hcn⟩ := HN.out.2.at_ (by omega)
        injection en with en _ ec
        subst en ec
        have yn1 : W2.cell? ⟨bn, on + j, none⟩ = some (.string (bs (c.names.getD j []))) := by have := hcn j hjl 0 (by omega); simpa using this
        have hbnz : bn < Z0 := HNZ.out bn on rfl (by omega)
        have hq2 := hq.out
        rw [nameW_at c.names j hjl] at hq2
        obtain ⟨n, hn⟩ : ∃ n, c.names.getD j [] = n := ⟨_, rfl⟩
        have hnn : n.length ≤ 9223372036854775807 := by rw [← hn, List.getD_eq_getElem?_getD, List.getElem?_eq_getElem hjl]; exact HN.out.1 _ (List.getElem_mem hjl)
        rw [hn] at yn1 hq2
        have yn : wr.cell? ⟨bn, on + j, none⟩ = some (.string (bs n)) := cellB hblq.out hbnz yn1
        have YN1 := Lib.hid yn1
        have HQ2 := Lib.hid hq2
        have hql : rq.length + 2 ≤ 200000 := by rw [← hq2, List.length_append] at hgl; omega
        have jl : (j : Int) < (c.names.length : Int) := by omega
        have j0 : (0 : Int) ≤ (j : Int) := by omega
        have lbn : bn < wr.heap.size := by omega
        clear hcn hn hq hq2 yn1
        by_cases hj0 : 0 < j
        · have q : decide (0 < (j : Int)) = true := decide_eq_true (by omega)
          have q' : (0 : Int) < (j : Int) := by omega
          go_wp2_with (at_builtin; refine wpList_appN rfl _ _ rfl Z0 _ _ rq [sComma] rfl (hownq.out.alloc _) rfl (SlN.oneA _ sComma (by decide) (by simp)) ?d3 ?d4 ?_)
          case d3 => first | omega | (simp; done) | (simp; omega)
          case d4 => first | omega | (simp; done) | (simp; omega)
          intro v2 w2 hown2 _ hb2
          have HOWN2 := Lib.hid hown2
          have HBA : Hid (Below Z0 W2 w2) := (hblq.out.alloc (by omega) _).trans hb2
          have hza : Z0 ≤ w2.heap.size := Nat.le_trans hz2 HBA.out.size
          have y2 : w2.cell? ⟨bn, on + j, none⟩ = some (.string (bs n)) := cellB HBA.out hbnz YN1.out
          have y3 : w2.cell? ⟨w.heap.size, 1, none⟩ = some (.slice (some ⟨bn, on, none⟩) c.names.length cn) := cellB HBA.out (by omega) (HBX.out.cell 1)
          have lx2 : w.heap.size < w2.heap.size := by omega
          have lbn2 : bn < w2.heap.size := by omega
          obtain ⟨p2, k2, hp2, k21, k22, _⟩ := hown2.shape
          subst hp2
          clear hown2 hb2 yn hownq z1 lx lbn
          go_wp2_with (at_builtin; refine wpList_appN rfl _ _ rfl Z0 _ _ (rq ++ [sComma]) [n] rfl (HOWN2.out.alloc _) rfl (SlN.oneA _ n hnn (by simp)) ?d3 ?d4 ?_)
          case d3 => first | omega | (simp; done) | (simp; omega)
          case d4 => first | omega | (simp; done) | (simp; omega)
          intro v3 w3 hown3 _ hb3
          have HOWN3 := Lib.hid hown3
          have HB3 : Hid (Below Z0 W2 w3) := (HBA.out.alloc (by omega) _).trans hb3
          clear hown3 hb3 y2 y3
          go_wp2_with fail
          go_roundg (c.names.length - (j + 1))
          case measure => omega
          case rel => exact ⟨j + 1, _, by omega, rfl, by go_num, by show _ = _; rw [← HQ2.out, if_neg (by omega), if_neg (by omega)]; simp, HOWN3.out, HB3.out⟩
        · have q : decide (0 < (j : Int)) = false := decide_eq_false (by omega)
          have q' : ¬ (0 : Int) < (j : Int) := by omega
          go_wp2_with (at_builtin; refine wpList_appN rfl _ _ rfl Z0 _ _ rq [n] rfl (hownq.out.alloc _) rfl (SlN.oneA _ n hnn (by simp)) ?d3 ?d4 ?_)
          case d3 => first | omega | (simp; done) | (simp; omega)
          case d4 => first | omega | (simp; done) | (simp; omega)
          intro v3 w3 hown3 _ hb3
          have HOWN3 := Lib.hid hown3
          have HB3 : Hid (Below Z0 W2 w3) := (hblq.out.alloc (by omega) _).trans hb3
          clear hown3 hb3 yn z1
          go_wp2_with fail
          go_roundg (c.names.length - (j + 1))
          case measure => omega
          case rel => exact ⟨j + 1, _, by omega, rfl, by go_num, by show _ = _; rw [← HQ2.out, if_neg (by omega), if_pos (by omega)]; simp, HOWN3.out, HB3.out⟩
      · obtain rfl : j = c.names.length := by omega
        have HE : Hid (rq = G) := by have := hq.out; rw [nameW_end, List.append_nil] at this; exact this
        have hql : rq.length ≤ 100000 := by rw [HE.out]; exact hgl
        clear hq hjl
        go_wp2_with (at_builtin; refine wpList_appN rfl _ _ rfl Z0 _ _ rq [sSemi] rfl (hownq.out.alloc _) rfl (SlN.oneA _ sSemi (by decide) (by simp)) ?d3 ?d4 ?_)
        case d3 => first | omega | (simp; done) | (simp; omega)
        case d4 => first | omega | (simp; done) | (simp; omega)
        intro v4 w4 hown4 _ hb4
        have HO4 := Lib.hid hown4
        have HB4 : Hid (Below Z0 W2 w4) := (hblq.out.alloc (by omega) _).trans hb4
        clear hown4 hb4
        go_wp2_with fail
        go_ret
        exact ⟨_, rfl, by rw [← HTE.out, ← HE.out]; exact HO4.out.le hz, HB2.out.trans (HB4.out.mono hz)⟩
  · have hln := hne (by omega)
    have hlp : 0 < c.names.length := List.length_pos_iff.2 hln
    obtain ⟨bn, on, cn', en, _, _, _, lnn, hcn⟩ := HN.out.2.at_ hlp
    injection en with en _ ec
    subst en ec
    obtain ⟨nm, hnm⟩ : ∃ n, c.names.headD [] = n := ⟨_, rfl⟩
    have hg0 : c.names.getD 0 [] = nm := by rw [← hnm]; cases hc : c.names with
      | nil => exact absurd hc hln
      | cons n l => rfl
    have x1 : W2.cell? ⟨bn, on, none⟩ = some (.string (bs nm)) := by have := hcn 0 hlp 0 (by omega); rw [hg0] at this; simpa using this
    have hnml : nm.length ≤ 9223372036854775807 := by rw [← hg0, List.getD_eq_getElem?_getD, List.getElem?_eq_getElem hlp]; exact HN.out.1 _ (List.getElem_mem hlp)
    clear hcn hg0
    have HTE : Hid (([x0] ++ [nm, sWithin, dd na]) ++ [sSemi] = T) := by show _ = _; rw [← HT.out]; unfold textsR midR; rw [HX0.out, hnm]; simp [hk, HNA.out, numW]
    have q1 : ((c.kind : Int) == 1) = false := beq_eq_false_iff_ne.2 (by omega)
    have q2 : ((c.kind : Int) == 2) = false := beq_eq_false_iff_ne.2 (by omega)
    have q3 : ((c.kind : Int) == 3) = false := beq_eq_false_iff_ne.2 (by omega)
    have q5 : ((c.kind : Int) == 5) = false := beq_eq_false_iff_ne.2 (by omega)
    have q9 : ((c.kind : Int) == 9) = false := beq_eq_false_iff_ne.2 (by omega)
    have q10 : ((c.kind : Int) == 10) = false := beq_eq_false_iff_ne.2 (by omega)
    have q11 : ((c.kind : Int) == 11) = true := beq_iff_eq.2 (by omega)
    go_wp2_with fail
    clear q1 q2 q3 q5 q9 q10 q11
    refine rtexts_r27 _ (by kernel_rfl) HBX.out HOWN.out (by simp) hz2 hna9 hlp hnml x1 ?_
    intro w3 v3 y0 y1 y2 y3 y4 y5 y6 y7 y8 y9 hown3 hb3
    have HOWN3 := Lib.hid hown3
    have HB3 := Lib.hid hb3
    have hz3 : Z0 ≤ w3.heap.size := Nat.le_trans hz2 hb3.size
    clear hown3 hb3
    go_wp2_with (at_builtin; refine wpList_appN rfl _ _ rfl Z0 _ _ ([x0] ++ [nm, sWithin, dd na]) [sSemi] rfl (HOWN3.out.alloc _) rfl (SlN.oneA _ sSemi (by decide) (by simp)) ?d3 ?d4 ?_)
    case d3 => first | omega | (simp; done) | (simp; omega)
    case d4 => first | omega | (simp; done) | (simp; omega)
    intro v4 w4 hown4 _ hb4
    have HO4 := Lib.hid hown4
    have HB4 : Hid (Below Z0 W2 w4) := (HB3.out.alloc (by omega) _).trans hb4
    clear hown4 hb4
    go_wp2_with fail
    go_ret
    exact ⟨_, rfl, by rw [← HTE.out]; exact HO4.out.le hz, HB2.out.trans (HB4.out.mono hz)⟩
  · have HTE : Hid (([x0] ++ [dd na]) ++ [sSemi] = T) := by show _ = _; rw [← HT.out]; unfold textsR midR; rw [HX0.out]; simp [hk.1, hk.2.1, hk.2.2.1, hk.2.2.2.1, hk.2.2.2.2.1, hk.2.2.2.2.2.1, hk.2.2.2.2.2.2, HNA.out, numW]
    have q1 : ((c.kind : Int) == 1) = false := beq_eq_false_iff_ne.2 (by omega)
    have q2 : ((c.kind : Int) == 2) = false := beq_eq_false_iff_ne.2 (by omega)
    have q3 : ((c.kind : Int) == 3) = false := beq_eq_false_iff_ne.2 (by omega)
    have q5 : ((c.kind : Int) == 5) = false := beq_eq_false_iff_ne.2 (by omega)
    have q9 : ((c.kind : Int) == 9) = false := beq_eq_false_iff_ne.2 (by omega)
    have q10 : ((c.kind : Int) == 10) = false := beq_eq_false_iff_ne.2 (by omega)
    have q11 : ((c.kind : Int) == 11) = false := beq_eq_false_iff_ne.2 (by omega)
    obtain ⟨z0, z1, z2, z3, z4, z5, z6, z7⟩ := HBX.out.cells8
    have lx := HBX.out.lt
    go_wp2_with fail
    clear q1 q2 q3 q5 q9 q10 q11
    refine (rdecimal_c _ na hna9).mono ?_
    rintro e w3 ⟨rfl, hb3⟩
    have HB3 : Hid (Below Z0 W2 w3) := hb3.mono hz2
    have HOWN3 := Lib.hid (HOWN.out.after hb3)
    have hz3 : Z0 ≤ w3.heap.size := Nat.le_trans hz2 hb3.size
    clear hb3 z0 z1 z2 z3 z4 z5 z6 z7 lx
    have hdl : (dd na).length ≤ 9223372036854775807 := dd_len64 hna9
    go_wp2_with (at_builtin; refine wpList_appN rfl _ _ rfl Z0 _ _ [x0] [dd na] rfl (HOWN3.out.alloc _) rfl (SlN.oneA _ (dd na) hdl (by simp)) ?d3 ?d4 ?_)
    case d3 => first | omega | (simp; done) | (simp; omega)
    case d4 => first | omega | (simp; done) | (simp; omega)
    intro v4 w4 hown4 _ hb4
    have HO4 := Lib.hid hown4
    have HB4 : Hid (Below Z0 W2 w4) := (HB3.out.alloc (by omega) _).trans hb4
    have hz4 : Z0 ≤ w4.heap.size := Nat.le_trans hz2 HB4.out.size
    clear hown4 hb4
    go_wp2_with (at_builtin; refine wpList_appN rfl _ _ rfl Z0 _ _ ([x0] ++ [dd na]) [sSemi] rfl (HO4.out.alloc _) rfl (SlN.oneA _ sSemi (by decide) (by simp)) ?d3 ?d4 ?_)
    case d3 => first | omega | (simp; done) | (simp; omega)
    case d4 => first | omega | (simp; done) | (simp; omega)
    intro v5 w5 hown5 _ hb5
    have HO5 := Lib.hid hown5
    have HB5 : Hid (Below Z0 W2 w5) := (HB4.out.alloc (by omega) _).trans hb5
    clear hown5 hb5
    go_wp2_with fail
    go_ret
    exact ⟨_, rfl, by rw [← HTE.out]; exact HO5.out.le hz, HB2.out.trans (HB5.out.mono hz)⟩
end Go.Proofs.YtganlldidjbpiaaGreatDoor

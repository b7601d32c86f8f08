/- Syntax, the reference: the drawn regions of texts. -/
import Derived.Test.YtganlldidjbpiaaGreatDoorQSyY4
import Derived.Test.YtganlldidjbpiaaGreatDoorK18
set_option linter.unusedVariables false
namespace Go.Proofs.YtganlldidjbpiaaGreatDoor
open Go.RowKit Go.Shelf

def KS.wds {S : Nat → Prop} (B : Nat) (l : List (List UInt8)) (hS : ∀ b, S b → b < B) : KS S :=
  ⟨fun v w => ∃ g, B ≤ g ∧ v = .slice (some ⟨g, 0, none⟩) l.length l.length ∧ Box w g (l.map fun n => Value.string (bs n)).toArray 9, fun _ _ _ hf ⟨g, h1, h2, h3⟩ => ⟨g, h1, h2, h3.fx hf (fun e => by have := hS g e; omega)⟩⟩
theorem SlN.boxL {g : Nat} {w : World} {l : List (List UInt8)} (hn : ∀ n ∈ l, n.length ≤ 9223372036854775807) (hl : l.length ≤ 1000) (h : Box w g (l.map fun n => Value.string (bs n)).toArray 9) : SlN (fun _ => True) w (.slice (some ⟨g, 0, none⟩) l.length l.length) l := by
  refine ⟨hn, some ⟨g, 0, none⟩, l.length, rfl, Nat.le_refl _, by omega, (fun h => by cases h), fun _ => ⟨g, 0, rfl, trivial, h.lt, fun i hi j hj => ?_⟩⟩
  obtain rfl : j = 0 := by omega
  rw [show 0 + i * 1 + 0 = i by omega, h.cell i]
  simp [List.getElem?_eq_getElem hi, List.getD_eq_getElem?_getD]
theorem domW_len64 (d : Nat) : (domW d).length ≤ 9223372036854775807 := Nat.le_trans (domW_len d) (by decide)
theorem dd_len64 {n : Nat} (h : n ≤ 999999999) : (dd n).length ≤ 9223372036854775807 := Nat.le_trans (dd_len 9 n (by omega) (by omega)) (by decide)
set_option maxRecDepth 100000 in
set_option maxHeartbeats 8000000 in
theorem rtexts_r12 (ops : Array Oper) (hops : (Tryz.f27.body.bind (regOf 12)) = some ops) {wr : World} {cb base : Nat} {r : List (List UInt8)} {dm : Nat} {ni : Nat} {na : Nat} {nb : Nat} {k v0 vi o vn : Value} {Q : Exit → Act → World → Prop} {x0 x2 x4 x5 x6 x7 x8 x9 x10 x11 x12 x13 x14 x15 x16 x17 x18 x19 x20 x21 x22 x23 x24 x25 x26 x27 x28 x29 x30 x31 x32 x33 x34 x35 x36 x37 x38 x39 x40 x41 x42 x43 x44 x45 x46 x47 x48 x49 x50 x51 x52 x53 x54 x55 x56 x57 x58 x59 x60 x61 x62 x63 x64 x65 x66 x67 x68 x69 x70 x71 x72 x73 x74 x75 x76 x77 x78 x79 x80 x81 x82 x83 x84 x85 x86 x87 x88 x89 x90 x91 x92 x93 x94 x95 x96 x97 x98 x99 x100 x101 x102 x103 x104 x105 x106 x107 x108 x109 x110 x111 x112 x113 x114 x115 x116 x117 x118 x119 x120 x121 x122 x123 x124 x125 x126 x127 x128 x129 x130 x131 : Value}
    (hbx : Box wr cb #[k, vn, .int .u8 (dm : Int), .int .i64 (ni : Int), .int .i64 (na : Int), .int .i64 (nb : Int), vi, o] 43) (ho : OwnN wr base v0 r) (hrl : r.length ≤ 100000) (hbs : base ≤ wr.heap.size) (hdm : dm < 256) (hni : ni ≤ 999999999) (hna : na ≤ 999999999) (hnb : nb ≤ 999999999)
    (hQ : ∀ (W : World) (v' : Value) (y47 y48 y49 y50 y51 y52 y53 y54 y55 y56 y57 y58 y59 y60 y61 : Value), OwnN W base v' (r ++ [domW dm, dd ni, sFrom, dd na, sTo, dd nb]) → Below base wr W → Q .normal ⟨[x0, .pointer (some ⟨cb, 0, none⟩), x2, v', x4, x5, x6, x7, x8, x9, x10, x11, x12, x13, x14, x15, x16, x17, x18, x19, x20, x21, x22, x23, x24, x25, x26, x27, x28, x29, x30, x31, x32, x33, x34, x35, x36, x37, x38, x39, x40, x41, x42, x43, x44, x45, x46, y47, y48, y49, y50, y51, y52, y53, y54, y55, y56, y57, y58, y59, y60, y61, x62, x63, x64, x65, x66, x67, x68, x69, x70, x71, x72, x73, x74, x75, x76, x77, x78, x79, x80, x81, x82, x83, x84, x85, x86, x87, x88, x89, x90, x91, x92, x93, x94, x95, x96, x97, x98, x99, x100, x101, x102, x103, x104, x105, x106, x107, x108, x109, x110, x111, x112, x113, x114, x115, x116, x117, x118, x119, x120, x121, x122, x123, x124, x125, x126, x127, x128, x129, x130, x131].toArray, []⟩ W) :
    (Code.region 12 ops true).wp Tryz.prog Q ⟨[x0, .pointer (some ⟨cb, 0, none⟩), x2, v0, x4, x5, x6, x7, x8, x9, x10, x11, x12, x13, x14, x15, x16, x17, x18, x19, x20, x21, x22, x23, x24, x25, x26, x27, x28, x29, x30, x31, x32, x33, x34, x35, x36, x37, x38, x39, x40, x41, x42, x43, x44, x45, x46, x47, x48, x49, x50, x51, x52, x53, x54, x55, x56, x57, x58, x59, x60, x61, x62, x63, x64, x65, x66, x67, x68, x69, x70, x71, x72, x73, x74, x75, x76, x77, x78, x79, x80, x81, x82, x83, x84, x85, x86, x87, x88, x89, x90, x91, x92, x93, x94, x95, x96, x97, x98, x99, x100, x101, x102, x103, x104, x105, x106, x107, x108, x109, x110, x111, x112, x113, x114, x115, x116, x117, x118, x119, x120, x121, x122, x123, x124, x125, x126, x127, x128, x129, x130, x131].toArray, []⟩ wr := by
  simp only [Tryz.f27, Option.bind_some, regOf] at hops
  replace hops := Option.some.inj hops
  subst hops
  replace hQ := Lib.hid hQ
  refine wp_gj_tail (S := SKS (S := (fun _ => False)) (fun κ => match κ with | 0 => KS.eq (v0) | 1 => KS.eq (.pointer (some ⟨cb, 2, none⟩)) | 2 => KS.eq (.int .u8 (dm : Int)) | 3 => KS.eq (.string (bs (domW dm))) | 4 => KS.eq (.pointer (some ⟨cb, 3, none⟩)) | 5 => KS.eq (.int .i64 (ni : Int)) | 6 => KS.eq (.string (bs (dd ni))) | 7 => KS.eq (.pointer (some ⟨cb, 4, none⟩)) | 8 => KS.eq (.int .i64 (na : Int)) | 9 => KS.eq (.string (bs (dd na))) | 10 => KS.eq (.pointer (some ⟨cb, 5, none⟩)) | 11 => KS.eq (.int .i64 (nb : Int)) | 12 => KS.eq (.string (bs (dd nb))) | 13 => KS.wds wr.heap.size [domW dm, dd ni, sFrom, dd na, sTo, dd nb] (fun b e => e.elim) | _ => KS.any)) (C := fun _ f u => Below wr.heap.size wr u ∧ f 3 = v0) 14 (by kernel_rfl) (by decide) (by kernel_rfl) (by kernel_rfl) ?_ ?_ (GJ.start ⟨below_dr (Below.refl _ _), rfl⟩)
  · intro listed a w9 i hin hr hj
    obtain ⟨hi12, hun, _, _, _⟩ := ready_mem hr
    have h12 : i ∈ List.range 14 := List.mem_range.2 hin
    simp only [List.range, List.range.loop, List.mem_cons, List.not_mem_nil, or_false] at h12
    obtain ⟨f, hae, hcm, hf, hdo, hdi⟩ := hj.open3 [47, 48, 49, 50, 51, 52, 53, 54, 55, 56, 57, 58, 59, 60, 61, 3] (by kernel_rfl) (by kernel_rfl)
    simp only [List.foldl_cons, List.foldl_nil, List.setIfInBounds_toArray, List.set_cons_zero, List.set_cons_succ] at hae
    subst hae
    replace hcm : Below wr.heap.size wr w9 ∧ f 3 = v0 := hcm
    rcases h12 with rfl | rfl | rfl | rfl | rfl | rfl | rfl | rfl | rfl | rfl | rfl | rfl | rfl | rfl
    · have e99 : f 3 = v0 := hcm.2
      refine GJ.op hj hdo hr rfl _ hdi (fun K hK => ?_)
      clear hj hf hdo hdi
      rw [e99] at hK ⊢
      clear e99
      go_simp
      exact hK _ _ (fun k v _ _ h => h) (fun t ht => rfl) ⟨hcm.1.trans ((Below.refl _ _).mono hcm.1.size), (by first | exact hcm.2 | rfl)⟩
    · have e99 : f 3 = v0 := hcm.2
      refine GJ.op hj hdo hr rfl _ hdi (fun K hK => ?_)
      clear hj hf hdo hdi
      rw [e99] at hK ⊢
      clear e99
      go_simp
      exact hK _ _ (fun k v _ _ h => h) (fun t ht => rfl) ⟨hcm.1.trans ((Below.refl _ _).mono hcm.1.size), (by first | exact hcm.2 | rfl)⟩
    · have e99 : f 3 = v0 := hcm.2
      have e1 : f 48 = .pointer (some ⟨cb, 2, none⟩) := hf 1 _ _ rfl rfl (up_dep hr (by kernel_rfl))
      have kc : w9.cell? ⟨cb, 2, none⟩ = some (.int .u8 (dm : Int)) := keep_cell hcm.1 (hbx.cell 2)
      have kl := World.block_lt_of_cell? _ _ kc
      simp only at kl
      refine GJ.op hj hdo hr rfl _ hdi (fun K hK => ?_)
      clear hj hf hdo hdi
      rw [e99, e1] at hK ⊢
      clear e99 e1
      go_simp
      exact hK _ _ (fun k v _ _ h => h) (fun t ht => rfl) ⟨hcm.1.trans ((Below.refl _ _).mono hcm.1.size), (by first | exact hcm.2 | rfl)⟩
    · have e99 : f 3 = v0 := hcm.2
      have e1 : f 49 = .int .u8 (dm : Int) := hf 2 _ _ rfl rfl (up_dep hr (by kernel_rfl))
      refine GJ.op hj hdo hr rfl _ hdi (fun K hK => ?_)
      clear hj hf hdo hdi
      rw [e99, e1] at hK ⊢
      clear e99 e1
      go_simp
      refine (rscopeW_c w9 dm hdm).mono ?_
      rintro e w10 ⟨rfl, hb10⟩
      exact hK _ _ (fun k v _ _ h => KS.st _ _ _ _ (Fx.of_below hb10) h) (fun t ht => rfl) ⟨hcm.1.trans (hb10.mono hcm.1.size), (by first | exact hcm.2 | rfl)⟩
    · have e99 : f 3 = v0 := hcm.2
      refine GJ.op hj hdo hr rfl _ hdi (fun K hK => ?_)
      clear hj hf hdo hdi
      rw [e99] at hK ⊢
      clear e99
      go_simp
      exact hK _ _ (fun k v _ _ h => h) (fun t ht => rfl) ⟨hcm.1.trans ((Below.refl _ _).mono hcm.1.size), (by first | exact hcm.2 | rfl)⟩
    · have e99 : f 3 = v0 := hcm.2
      have e1 : f 51 = .pointer (some ⟨cb, 3, none⟩) := hf 4 _ _ rfl rfl (up_dep hr (by kernel_rfl))
      have kc : w9.cell? ⟨cb, 3, none⟩ = some (.int .i64 (ni : Int)) := keep_cell hcm.1 (hbx.cell 3)
      have kl := World.block_lt_of_cell? _ _ kc
      simp only at kl
      refine GJ.op hj hdo hr rfl _ hdi (fun K hK => ?_)
      clear hj hf hdo hdi
      rw [e99, e1] at hK ⊢
      clear e99 e1
      go_simp
      exact hK _ _ (fun k v _ _ h => h) (fun t ht => rfl) ⟨hcm.1.trans ((Below.refl _ _).mono hcm.1.size), (by first | exact hcm.2 | rfl)⟩
    · have e99 : f 3 = v0 := hcm.2
      have e1 : f 52 = .int .i64 (ni : Int) := hf 5 _ _ rfl rfl (up_dep hr (by kernel_rfl))
      refine GJ.op hj hdo hr rfl _ hdi (fun K hK => ?_)
      clear hj hf hdo hdi
      rw [e99, e1] at hK ⊢
      clear e99 e1
      go_simp
      refine (rdecimal_c w9 ni hni).mono ?_
      rintro e w10 ⟨rfl, hb10⟩
      exact hK _ _ (fun k v _ _ h => KS.st _ _ _ _ (Fx.of_below hb10) h) (fun t ht => rfl) ⟨hcm.1.trans (hb10.mono hcm.1.size), (by first | exact hcm.2 | rfl)⟩
    · have e99 : f 3 = v0 := hcm.2
      refine GJ.op hj hdo hr rfl _ hdi (fun K hK => ?_)
      clear hj hf hdo hdi
      rw [e99] at hK ⊢
      clear e99
      go_simp
      exact hK _ _ (fun k v _ _ h => h) (fun t ht => rfl) ⟨hcm.1.trans ((Below.refl _ _).mono hcm.1.size), (by first | exact hcm.2 | rfl)⟩
    · have e99 : f 3 = v0 := hcm.2
      have e1 : f 54 = .pointer (some ⟨cb, 4, none⟩) := hf 7 _ _ rfl rfl (up_dep hr (by kernel_rfl))
      have kc : w9.cell? ⟨cb, 4, none⟩ = some (.int .i64 (na : Int)) := keep_cell hcm.1 (hbx.cell 4)
      have kl := World.block_lt_of_cell? _ _ kc
      simp only at kl
      refine GJ.op hj hdo hr rfl _ hdi (fun K hK => ?_)
      clear hj hf hdo hdi
      rw [e99, e1] at hK ⊢
      clear e99 e1
      go_simp
      exact hK _ _ (fun k v _ _ h => h) (fun t ht => rfl) ⟨hcm.1.trans ((Below.refl _ _).mono hcm.1.size), (by first | exact hcm.2 | rfl)⟩
    · have e99 : f 3 = v0 := hcm.2
      have e1 : f 55 = .int .i64 (na : Int) := hf 8 _ _ rfl rfl (up_dep hr (by kernel_rfl))
      refine GJ.op hj hdo hr rfl _ hdi (fun K hK => ?_)
      clear hj hf hdo hdi
      rw [e99, e1] at hK ⊢
      clear e99 e1
      go_simp
      refine (rdecimal_c w9 na hna).mono ?_
      rintro e w10 ⟨rfl, hb10⟩
      exact hK _ _ (fun k v _ _ h => KS.st _ _ _ _ (Fx.of_below hb10) h) (fun t ht => rfl) ⟨hcm.1.trans (hb10.mono hcm.1.size), (by first | exact hcm.2 | rfl)⟩
    · have e99 : f 3 = v0 := hcm.2
      refine GJ.op hj hdo hr rfl _ hdi (fun K hK => ?_)
      clear hj hf hdo hdi
      rw [e99] at hK ⊢
      clear e99
      go_simp
      exact hK _ _ (fun k v _ _ h => h) (fun t ht => rfl) ⟨hcm.1.trans ((Below.refl _ _).mono hcm.1.size), (by first | exact hcm.2 | rfl)⟩
    · have e99 : f 3 = v0 := hcm.2
      have e1 : f 57 = .pointer (some ⟨cb, 5, none⟩) := hf 10 _ _ rfl rfl (up_dep hr (by kernel_rfl))
      have kc : w9.cell? ⟨cb, 5, none⟩ = some (.int .i64 (nb : Int)) := keep_cell hcm.1 (hbx.cell 5)
      have kl := World.block_lt_of_cell? _ _ kc
      simp only at kl
      refine GJ.op hj hdo hr rfl _ hdi (fun K hK => ?_)
      clear hj hf hdo hdi
      rw [e99, e1] at hK ⊢
      clear e99 e1
      go_simp
      exact hK _ _ (fun k v _ _ h => h) (fun t ht => rfl) ⟨hcm.1.trans ((Below.refl _ _).mono hcm.1.size), (by first | exact hcm.2 | rfl)⟩
    · have e99 : f 3 = v0 := hcm.2
      have e1 : f 58 = .int .i64 (nb : Int) := hf 11 _ _ rfl rfl (up_dep hr (by kernel_rfl))
      refine GJ.op hj hdo hr rfl _ hdi (fun K hK => ?_)
      clear hj hf hdo hdi
      rw [e99, e1] at hK ⊢
      clear e99 e1
      go_simp
      refine (rdecimal_c w9 nb hnb).mono ?_
      rintro e w10 ⟨rfl, hb10⟩
      exact hK _ _ (fun k v _ _ h => KS.st _ _ _ _ (Fx.of_below hb10) h) (fun t ht => rfl) ⟨hcm.1.trans (hb10.mono hcm.1.size), (by first | exact hcm.2 | rfl)⟩
    · have e99 : f 3 = v0 := hcm.2
      have e1 : f 50 = .string (bs (domW dm)) := hf 3 _ _ rfl rfl (up_dep hr (by kernel_rfl))
      have e2 : f 53 = .string (bs (dd ni)) := hf 6 _ _ rfl rfl (up_dep hr (by kernel_rfl))
      have e3 : f 56 = .string (bs (dd na)) := hf 9 _ _ rfl rfl (up_dep hr (by kernel_rfl))
      have e4 : f 59 = .string (bs (dd nb)) := hf 12 _ _ rfl rfl (up_dep hr (by kernel_rfl))
      refine GJ.op hj hdo hr rfl _ hdi (fun K hK => ?_)
      clear hj hf hdo hdi
      rw [e99, e1, e2, e3, e4] at hK ⊢
      clear e99 e1 e2 e3 e4
      go_simp
      exact hK _ _ (fun k v _ _ h => KS.st _ _ _ _ (Fx.of_below (held_alloc (Below.refl _ _))) h) (fun t ht => ⟨w9.heap.size, hcm.1.size, rfl, Box.new _ _ _⟩) ⟨hcm.1.trans ((held_alloc (Below.refl _ _)).mono hcm.1.size), (by first | exact hcm.2 | rfl)⟩
  · intro listed a w10 hu hj
    obtain ⟨f, hae, hcm, hf⟩ := hj.opened [47, 48, 49, 50, 51, 52, 53, 54, 55, 56, 57, 58, 59, 60, 61, 3] (by kernel_rfl)
    simp only [List.foldl_cons, List.foldl_nil, List.setIfInBounds_toArray, List.set_cons_zero, List.set_cons_succ] at hae
    subst hae
    replace hcm : Below wr.heap.size wr w10 ∧ f 3 = v0 := hcm
    have e1 : f 47 = v0 := hf 0 _ _ rfl rfl (hu 0 (by omega))
    obtain ⟨g, hg, e4, hbg⟩ : ∃ g, wr.heap.size ≤ g ∧ f 60 = .slice (some ⟨g, 0, none⟩) 6 6 ∧ Box w10 g ([domW dm, dd ni, sFrom, dd na, sTo, dd nb].map fun n => Value.string (bs n)).toArray 9 := hf 13 _ _ rfl rfl (hu 13 (by omega))
    replace hcm : Below wr.heap.size wr w10 := hcm.1
    have HF := Lib.hid hcm
    have HOW := Lib.hid (ho.after hcm)
    have HSL : Hid (SlN (fun _ => True) w10 (.slice (some ⟨g, 0, none⟩) 6 6) [domW dm, dd ni, sFrom, dd na, sTo, dd nb]) := SlN.boxL (by simp only [List.mem_cons, List.not_mem_nil, or_false]; rintro n (rfl | rfl | rfl | rfl | rfl | rfl) <;> first | exact domW_len64 _ | exact dd_len64 (by omega) | exact hnl | decide) (by simp) hbg
    have hwl : ([domW dm, dd ni, sFrom, dd na, sTo, dd nb] : List (List UInt8)).length = 6 := rfl
    have hbw : base ≤ w10.heap.size := Nat.le_trans hbs hcm.size
    clear hcm hf hj hu hbg
    rw [e1, e4]
    clear e1 e4
    generalize f 48 = g48
    generalize f 49 = g49
    generalize f 50 = g50
    generalize f 51 = g51
    generalize f 52 = g52
    generalize f 53 = g53
    generalize f 54 = g54
    generalize f 55 = g55
    generalize f 56 = g56
    generalize f 57 = g57
    generalize f 58 = g58
    generalize f 59 = g59
    generalize f 61 = g61
    generalize f 3 = g3
    clear f
    simp only [List.drop_succ_cons, List.drop_zero]
    refine wpList_appN rfl (.tmp 47) (.tmp 60) rfl base v0 _ r [domW dm, dd ni, sFrom, dd na, sTo, dd nb] rfl HOW.out rfl HSL.out (by rw [hwl]; omega) hbw (fun v2 w2 hown2 hf2 hb2 => ?_)
    have HO2 := Lib.hid hown2
    have HB2 : Hid (Below base wr w2) := (HF.out.mono hbs).trans hb2
    clear hown2 hf2 hb2 HOW HSL HF hwl hbw
    simp only [Act.put, List.setIfInBounds_toArray, List.set_cons_zero, List.set_cons_succ]
    go_wp2_with fail
    exact hQ.out _ _ _ _ _ _ _ _ _ _ _ _ _ _ _ _ _ HO2.out HB2.out
set_option maxRecDepth 100000 in
set_option maxHeartbeats 8000000 in
theorem rtexts_r14 (ops : Array Oper) (hops : (Tryz.f27.body.bind (regOf 14)) = some ops) {wr : World} {cb base : Nat} {r : List (List UInt8)} {dm : Nat} {ni : Nat} {k v0 vi o vn a b : Value} {Q : Exit → Act → World → Prop} {x0 x2 x4 x5 x6 x7 x8 x9 x10 x11 x12 x13 x14 x15 x16 x17 x18 x19 x20 x21 x22 x23 x24 x25 x26 x27 x28 x29 x30 x31 x32 x33 x34 x35 x36 x37 x38 x39 x40 x41 x42 x43 x44 x45 x46 x47 x48 x49 x50 x51 x52 x53 x54 x55 x56 x57 x58 x59 x60 x61 x62 x63 x64 x65 x66 x67 x68 x69 x70 x71 x72 x73 x74 x75 x76 x77 x78 x79 x80 x81 x82 x83 x84 x85 x86 x87 x88 x89 x90 x91 x92 x93 x94 x95 x96 x97 x98 x99 x100 x101 x102 x103 x104 x105 x106 x107 x108 x109 x110 x111 x112 x113 x114 x115 x116 x117 x118 x119 x120 x121 x122 x123 x124 x125 x126 x127 x128 x129 x130 x131 : Value}
    (hbx : Box wr cb #[k, vn, .int .u8 (dm : Int), .int .i64 (ni : Int), a, b, vi, o] 43) (ho : OwnN wr base v0 r) (hrl : r.length ≤ 100000) (hbs : base ≤ wr.heap.size) (hdm : dm < 256) (hni : ni ≤ 999999999)
    (hQ : ∀ (W : World) (v' : Value) (y64 y65 y66 y67 y68 y69 y70 y71 y72 : Value), OwnN W base v' (r ++ [domW dm, dd ni]) → Below base wr W → Q .normal ⟨[x0, .pointer (some ⟨cb, 0, none⟩), x2, v', x4, x5, x6, x7, x8, x9, x10, x11, x12, x13, x14, x15, x16, x17, x18, x19, x20, x21, x22, x23, x24, x25, x26, x27, x28, x29, x30, x31, x32, x33, x34, x35, x36, x37, x38, x39, x40, x41, x42, x43, x44, x45, x46, x47, x48, x49, x50, x51, x52, x53, x54, x55, x56, x57, x58, x59, x60, x61, x62, x63, y64, y65, y66, y67, y68, y69, y70, y71, y72, x73, x74, x75, x76, x77, x78, x79, x80, x81, x82, x83, x84, x85, x86, x87, x88, x89, x90, x91, x92, x93, x94, x95, x96, x97, x98, x99, x100, x101, x102, x103, x104, x105, x106, x107, x108, x109, x110, x111, x112, x113, x114, x115, x116, x117, x118, x119, x120, x121, x122, x123, x124, x125, x126, x127, x128, x129, x130, x131].toArray, []⟩ W) :
    (Code.region 14 ops true).wp Tryz.prog Q ⟨[x0, .pointer (some ⟨cb, 0, none⟩), x2, v0, x4, x5, x6, x7, x8, x9, x10, x11, x12, x13, x14, x15, x16, x17, x18, x19, x20, x21, x22, x23, x24, x25, x26, x27, x28, x29, x30, x31, x32, x33, x34, x35, x36, x37, x38, x39, x40, x41, x42, x43, x44, x45, x46, x47, x48, x49, x50, x51, x52, x53, x54, x55, x56, x57, x58, x59, x60, x61, x62, x63, x64, x65, x66, x67, x68, x69, x70, x71, x72, x73, x74, x75, x76, x77, x78, x79, x80, x81, x82, x83, x84, x85, x86, x87, x88, x89, x90, x91, x92, x93, x94, x95, x96, x97, x98, x99, x100, x101, x102, x103, x104, x105, x106, x107, x108, x109, x110, x111, x112, x113, x114, x115, x116, x117, x118, x119, x120, x121, x122, x123, x124, x125, x126, x127, x128, x129, x130, x131].toArray, []⟩ wr := by
  simp only [Tryz.f27, Option.bind_some, regOf] at hops
  replace hops := Option.some.inj hops
  subst hops
  replace hQ := Lib.hid hQ
  refine wp_gj_tail (S := SKS (S := (fun _ => False)) (fun κ => match κ with | 0 => KS.eq (v0) | 1 => KS.eq (.pointer (some ⟨cb, 2, none⟩)) | 2 => KS.eq (.int .u8 (dm : Int)) | 3 => KS.eq (.string (bs (domW dm))) | 4 => KS.eq (.pointer (some ⟨cb, 3, none⟩)) | 5 => KS.eq (.int .i64 (ni : Int)) | 6 => KS.eq (.string (bs (dd ni))) | 7 => KS.wds wr.heap.size [domW dm, dd ni] (fun b e => e.elim) | _ => KS.any)) (C := fun _ f u => Below wr.heap.size wr u ∧ f 3 = v0) 8 (by kernel_rfl) (by decide) (by kernel_rfl) (by kernel_rfl) ?_ ?_ (GJ.start ⟨below_dr (Below.refl _ _), rfl⟩)
  · intro listed a w9 i hin hr hj
    obtain ⟨hi12, hun, _, _, _⟩ := ready_mem hr
    have h12 : i ∈ List.range 8 := List.mem_range.2 hin
    simp only [List.range, List.range.loop, List.mem_cons, List.not_mem_nil, or_false] at h12
    obtain ⟨f, hae, hcm, hf, hdo, hdi⟩ := hj.open3 [64, 65, 66, 67, 68, 69, 70, 71, 72, 3] (by kernel_rfl) (by kernel_rfl)
    simp only [List.foldl_cons, List.foldl_nil, List.setIfInBounds_toArray, List.set_cons_zero, List.set_cons_succ] at hae
    subst hae
    replace hcm : Below wr.heap.size wr w9 ∧ f 3 = v0 := hcm
    rcases h12 with rfl | rfl | rfl | rfl | rfl | rfl | rfl | rfl
    · have e99 : f 3 = v0 := hcm.2
      refine GJ.op hj hdo hr rfl _ hdi (fun K hK => ?_)
      clear hj hf hdo hdi
      rw [e99] at hK ⊢
      clear e99
      go_simp
      exact hK _ _ (fun k v _ _ h => h) (fun t ht => rfl) ⟨hcm.1.trans ((Below.refl _ _).mono hcm.1.size), (by first | exact hcm.2 | rfl)⟩
    · have e99 : f 3 = v0 := hcm.2
      refine GJ.op hj hdo hr rfl _ hdi (fun K hK => ?_)
      clear hj hf hdo hdi
      rw [e99] at hK ⊢
      clear e99
      go_simp
      exact hK _ _ (fun k v _ _ h => h) (fun t ht => rfl) ⟨hcm.1.trans ((Below.refl _ _).mono hcm.1.size), (by first | exact hcm.2 | rfl)⟩
    · have e99 : f 3 = v0 := hcm.2
      have e1 : f 65 = .pointer (some ⟨cb, 2, none⟩) := hf 1 _ _ rfl rfl (up_dep hr (by kernel_rfl))
      have kc : w9.cell? ⟨cb, 2, none⟩ = some (.int .u8 (dm : Int)) := keep_cell hcm.1 (hbx.cell 2)
      have kl := World.block_lt_of_cell? _ _ kc
      simp only at kl
      refine GJ.op hj hdo hr rfl _ hdi (fun K hK => ?_)
      clear hj hf hdo hdi
      rw [e99, e1] at hK ⊢
      clear e99 e1
      go_simp
      exact hK _ _ (fun k v _ _ h => h) (fun t ht => rfl) ⟨hcm.1.trans ((Below.refl _ _).mono hcm.1.size), (by first | exact hcm.2 | rfl)⟩
    · have e99 : f 3 = v0 := hcm.2
      have e1 : f 66 = .int .u8 (dm : Int) := hf 2 _ _ rfl rfl (up_dep hr (by kernel_rfl))
      refine GJ.op hj hdo hr rfl _ hdi (fun K hK => ?_)
      clear hj hf hdo hdi
      rw [e99, e1] at hK ⊢
      clear e99 e1
      go_simp
      refine (rscopeW_c w9 dm hdm).mono ?_
      rintro e w10 ⟨rfl, hb10⟩
      exact hK _ _ (fun k v _ _ h => KS.st _ _ _ _ (Fx.of_below hb10) h) (fun t ht => rfl) ⟨hcm.1.trans (hb10.mono hcm.1.size), (by first | exact hcm.2 | rfl)⟩
    · have e99 : f 3 = v0 := hcm.2
      refine GJ.op hj hdo hr rfl _ hdi (fun K hK => ?_)
      clear hj hf hdo hdi
      rw [e99] at hK ⊢
      clear e99
      go_simp
      exact hK _ _ (fun k v _ _ h => h) (fun t ht => rfl) ⟨hcm.1.trans ((Below.refl _ _).mono hcm.1.size), (by first | exact hcm.2 | rfl)⟩
    · have e99 : f 3 = v0 := hcm.2
      have e1 : f 68 = .pointer (some ⟨cb, 3, none⟩) := hf 4 _ _ rfl rfl (up_dep hr (by kernel_rfl))
      have kc : w9.cell? ⟨cb, 3, none⟩ = some (.int .i64 (ni : Int)) := keep_cell hcm.1 (hbx.cell 3)
      have kl := World.block_lt_of_cell? _ _ kc
      simp only at kl
      refine GJ.op hj hdo hr rfl _ hdi (fun K hK => ?_)
      clear hj hf hdo hdi
      rw [e99, e1] at hK ⊢
      clear e99 e1
      go_simp
      exact hK _ _ (fun k v _ _ h => h) (fun t ht => rfl) ⟨hcm.1.trans ((Below.refl _ _).mono hcm.1.size), (by first | exact hcm.2 | rfl)⟩
    · have e99 : f 3 = v0 := hcm.2
      have e1 : f 69 = .int .i64 (ni : Int) := hf 5 _ _ rfl rfl (up_dep hr (by kernel_rfl))
      refine GJ.op hj hdo hr rfl _ hdi (fun K hK => ?_)
      clear hj hf hdo hdi
      rw [e99, e1] at hK ⊢
      clear e99 e1
      go_simp
      refine (rdecimal_c w9 ni hni).mono ?_
      rintro e w10 ⟨rfl, hb10⟩
      exact hK _ _ (fun k v _ _ h => KS.st _ _ _ _ (Fx.of_below hb10) h) (fun t ht => rfl) ⟨hcm.1.trans (hb10.mono hcm.1.size), (by first | exact hcm.2 | rfl)⟩
    · have e99 : f 3 = v0 := hcm.2
      have e1 : f 67 = .string (bs (domW dm)) := hf 3 _ _ rfl rfl (up_dep hr (by kernel_rfl))
      have e2 : f 70 = .string (bs (dd ni)) := hf 6 _ _ rfl rfl (up_dep hr (by kernel_rfl))
      refine GJ.op hj hdo hr rfl _ hdi (fun K hK => ?_)
      clear hj hf hdo hdi
      rw [e99, e1, e2] at hK ⊢
      clear e99 e1 e2
      go_simp
      exact hK _ _ (fun k v _ _ h => KS.st _ _ _ _ (Fx.of_below (held_alloc (Below.refl _ _))) h) (fun t ht => ⟨w9.heap.size, hcm.1.size, rfl, Box.new _ _ _⟩) ⟨hcm.1.trans ((held_alloc (Below.refl _ _)).mono hcm.1.size), (by first | exact hcm.2 | rfl)⟩
  · intro listed a w10 hu hj
    obtain ⟨f, hae, hcm, hf⟩ := hj.opened [64, 65, 66, 67, 68, 69, 70, 71, 72, 3] (by kernel_rfl)
    simp only [List.foldl_cons, List.foldl_nil, List.setIfInBounds_toArray, List.set_cons_zero, List.set_cons_succ] at hae
    subst hae
    replace hcm : Below wr.heap.size wr w10 ∧ f 3 = v0 := hcm
    have e1 : f 64 = v0 := hf 0 _ _ rfl rfl (hu 0 (by omega))
    obtain ⟨g, hg, e4, hbg⟩ : ∃ g, wr.heap.size ≤ g ∧ f 71 = .slice (some ⟨g, 0, none⟩) 2 2 ∧ Box w10 g ([domW dm, dd ni].map fun n => Value.string (bs n)).toArray 9 := hf 7 _ _ rfl rfl (hu 7 (by omega))
    replace hcm : Below wr.heap.size wr w10 := hcm.1
    have HF := Lib.hid hcm
    have HOW := Lib.hid (ho.after hcm)
    have HSL : Hid (SlN (fun _ => True) w10 (.slice (some ⟨g, 0, none⟩) 2 2) [domW dm, dd ni]) := SlN.boxL (by simp only [List.mem_cons, List.not_mem_nil, or_false]; rintro n (rfl | rfl) <;> first | exact domW_len64 _ | exact dd_len64 (by omega) | exact hnl | decide) (by simp) hbg
    have hwl : ([domW dm, dd ni] : List (List UInt8)).length = 2 := rfl
    have hbw : base ≤ w10.heap.size := Nat.le_trans hbs hcm.size
    clear hcm hf hj hu hbg
    rw [e1, e4]
    clear e1 e4
    generalize f 65 = g65
    generalize f 66 = g66
    generalize f 67 = g67
    generalize f 68 = g68
    generalize f 69 = g69
    generalize f 70 = g70
    generalize f 72 = g72
    generalize f 3 = g3
    clear f
    simp only [List.drop_succ_cons, List.drop_zero]
    refine wpList_appN rfl (.tmp 64) (.tmp 71) rfl base v0 _ r [domW dm, dd ni] rfl HOW.out rfl HSL.out (by rw [hwl]; omega) hbw (fun v2 w2 hown2 hf2 hb2 => ?_)
    have HO2 := Lib.hid hown2
    have HB2 : Hid (Below base wr w2) := (HF.out.mono hbs).trans hb2
    clear hown2 hf2 hb2 HOW HSL HF hwl hbw
    simp only [Act.put, List.setIfInBounds_toArray, List.set_cons_zero, List.set_cons_succ]
    go_wp2_with fail
    exact hQ.out _ _ _ _ _ _ _ _ _ _ _ HO2.out HB2.out
set_option maxRecDepth 100000 in
set_option maxHeartbeats 8000000 in
theorem rtexts_r16 (ops : Array Oper) (hops : (Tryz.f27.body.bind (regOf 16)) = some ops) {wr : World} {cb base : Nat} {r : List (List UInt8)} {ni : Nat} {na : Nat} {k v0 vi o vn d b : Value} {Q : Exit → Act → World → Prop} {x0 x2 x4 x5 x6 x7 x8 x9 x10 x11 x12 x13 x14 x15 x16 x17 x18 x19 x20 x21 x22 x23 x24 x25 x26 x27 x28 x29 x30 x31 x32 x33 x34 x35 x36 x37 x38 x39 x40 x41 x42 x43 x44 x45 x46 x47 x48 x49 x50 x51 x52 x53 x54 x55 x56 x57 x58 x59 x60 x61 x62 x63 x64 x65 x66 x67 x68 x69 x70 x71 x72 x73 x74 x75 x76 x77 x78 x79 x80 x81 x82 x83 x84 x85 x86 x87 x88 x89 x90 x91 x92 x93 x94 x95 x96 x97 x98 x99 x100 x101 x102 x103 x104 x105 x106 x107 x108 x109 x110 x111 x112 x113 x114 x115 x116 x117 x118 x119 x120 x121 x122 x123 x124 x125 x126 x127 x128 x129 x130 x131 : Value}
    (hbx : Box wr cb #[k, vn, d, .int .i64 (ni : Int), .int .i64 (na : Int), b, vi, o] 43) (ho : OwnN wr base v0 r) (hrl : r.length ≤ 100000) (hbs : base ≤ wr.heap.size) (hni : ni ≤ 999999999) (hna : na ≤ 999999999)
    (hQ : ∀ (W : World) (v' : Value) (y75 y76 y77 y78 y79 y80 y81 y82 y83 : Value), OwnN W base v' (r ++ [sFeed, dd ni, sAt, dd na]) → Below base wr W → Q .normal ⟨[x0, .pointer (some ⟨cb, 0, none⟩), x2, v', x4, x5, x6, x7, x8, x9, x10, x11, x12, x13, x14, x15, x16, x17, x18, x19, x20, x21, x22, x23, x24, x25, x26, x27, x28, x29, x30, x31, x32, x33, x34, x35, x36, x37, x38, x39, x40, x41, x42, x43, x44, x45, x46, x47, x48, x49, x50, x51, x52, x53, x54, x55, x56, x57, x58, x59, x60, x61, x62, x63, x64, x65, x66, x67, x68, x69, x70, x71, x72, x73, x74, y75, y76, y77, y78, y79, y80, y81, y82, y83, x84, x85, x86, x87, x88, x89, x90, x91, x92, x93, x94, x95, x96, x97, x98, x99, x100, x101, x102, x103, x104, x105, x106, x107, x108, x109, x110, x111, x112, x113, x114, x115, x116, x117, x118, x119, x120, x121, x122, x123, x124, x125, x126, x127, x128, x129, x130, x131].toArray, []⟩ W) :
    (Code.region 16 ops true).wp Tryz.prog Q ⟨[x0, .pointer (some ⟨cb, 0, none⟩), x2, v0, x4, x5, x6, x7, x8, x9, x10, x11, x12, x13, x14, x15, x16, x17, x18, x19, x20, x21, x22, x23, x24, x25, x26, x27, x28, x29, x30, x31, x32, x33, x34, x35, x36, x37, x38, x39, x40, x41, x42, x43, x44, x45, x46, x47, x48, x49, x50, x51, x52, x53, x54, x55, x56, x57, x58, x59, x60, x61, x62, x63, x64, x65, x66, x67, x68, x69, x70, x71, x72, x73, x74, x75, x76, x77, x78, x79, x80, x81, x82, x83, x84, x85, x86, x87, x88, x89, x90, x91, x92, x93, x94, x95, x96, x97, x98, x99, x100, x101, x102, x103, x104, x105, x106, x107, x108, x109, x110, x111, x112, x113, x114, x115, x116, x117, x118, x119, x120, x121, x122, x123, x124, x125, x126, x127, x128, x129, x130, x131].toArray, []⟩ wr := by
  simp only [Tryz.f27, Option.bind_some, regOf] at hops
  replace hops := Option.some.inj hops
  subst hops
  replace hQ := Lib.hid hQ
  refine wp_gj_tail (S := SKS (S := (fun _ => False)) (fun κ => match κ with | 0 => KS.eq (v0) | 1 => KS.eq (.pointer (some ⟨cb, 3, none⟩)) | 2 => KS.eq (.int .i64 (ni : Int)) | 3 => KS.eq (.string (bs (dd ni))) | 4 => KS.eq (.pointer (some ⟨cb, 4, none⟩)) | 5 => KS.eq (.int .i64 (na : Int)) | 6 => KS.eq (.string (bs (dd na))) | 7 => KS.wds wr.heap.size [sFeed, dd ni, sAt, dd na] (fun b e => e.elim) | _ => KS.any)) (C := fun _ f u => Below wr.heap.size wr u ∧ f 3 = v0) 8 (by kernel_rfl) (by decide) (by kernel_rfl) (by kernel_rfl) ?_ ?_ (GJ.start ⟨below_dr (Below.refl _ _), rfl⟩)
  · intro listed a w9 i hin hr hj
    obtain ⟨hi12, hun, _, _, _⟩ := ready_mem hr
    have h12 : i ∈ List.range 8 := List.mem_range.2 hin
    simp only [List.range, List.range.loop, List.mem_cons, List.not_mem_nil, or_false] at h12
    obtain ⟨f, hae, hcm, hf, hdo, hdi⟩ := hj.open3 [75, 76, 77, 78, 79, 80, 81, 82, 83, 3] (by kernel_rfl) (by kernel_rfl)
    simp only [List.foldl_cons, List.foldl_nil, List.setIfInBounds_toArray, List.set_cons_zero, List.set_cons_succ] at hae
    subst hae
    replace hcm : Below wr.heap.size wr w9 ∧ f 3 = v0 := hcm
    rcases h12 with rfl | rfl | rfl | rfl | rfl | rfl | rfl | rfl
    · have e99 : f 3 = v0 := hcm.2
      refine GJ.op hj hdo hr rfl _ hdi (fun K hK => ?_)
      clear hj hf hdo hdi
      rw [e99] at hK ⊢
      clear e99
      go_simp
      exact hK _ _ (fun k v _ _ h => h) (fun t ht => rfl) ⟨hcm.1.trans ((Below.refl _ _).mono hcm.1.size), (by first | exact hcm.2 | rfl)⟩
    · have e99 : f 3 = v0 := hcm.2
      refine GJ.op hj hdo hr rfl _ hdi (fun K hK => ?_)
      clear hj hf hdo hdi
      rw [e99] at hK ⊢
      clear e99
      go_simp
      exact hK _ _ (fun k v _ _ h => h) (fun t ht => rfl) ⟨hcm.1.trans ((Below.refl _ _).mono hcm.1.size), (by first | exact hcm.2 | rfl)⟩
    · have e99 : f 3 = v0 := hcm.2
      have e1 : f 76 = .pointer (some ⟨cb, 3, none⟩) := hf 1 _ _ rfl rfl (up_dep hr (by kernel_rfl))
      have kc : w9.cell? ⟨cb, 3, none⟩ = some (.int .i64 (ni : Int)) := keep_cell hcm.1 (hbx.cell 3)
      have kl := World.block_lt_of_cell? _ _ kc
      simp only at kl
      refine GJ.op hj hdo hr rfl _ hdi (fun K hK => ?_)
      clear hj hf hdo hdi
      rw [e99, e1] at hK ⊢
      clear e99 e1
      go_simp
      exact hK _ _ (fun k v _ _ h => h) (fun t ht => rfl) ⟨hcm.1.trans ((Below.refl _ _).mono hcm.1.size), (by first | exact hcm.2 | rfl)⟩
    · have e99 : f 3 = v0 := hcm.2
      have e1 : f 77 = .int .i64 (ni : Int) := hf 2 _ _ rfl rfl (up_dep hr (by kernel_rfl))
      refine GJ.op hj hdo hr rfl _ hdi (fun K hK => ?_)
      clear hj hf hdo hdi
      rw [e99, e1] at hK ⊢
      clear e99 e1
      go_simp
      refine (rdecimal_c w9 ni hni).mono ?_
      rintro e w10 ⟨rfl, hb10⟩
      exact hK _ _ (fun k v _ _ h => KS.st _ _ _ _ (Fx.of_below hb10) h) (fun t ht => rfl) ⟨hcm.1.trans (hb10.mono hcm.1.size), (by first | exact hcm.2 | rfl)⟩
    · have e99 : f 3 = v0 := hcm.2
      refine GJ.op hj hdo hr rfl _ hdi (fun K hK => ?_)
      clear hj hf hdo hdi
      rw [e99] at hK ⊢
      clear e99
      go_simp
      exact hK _ _ (fun k v _ _ h => h) (fun t ht => rfl) ⟨hcm.1.trans ((Below.refl _ _).mono hcm.1.size), (by first | exact hcm.2 | rfl)⟩
    · have e99 : f 3 = v0 := hcm.2
      have e1 : f 79 = .pointer (some ⟨cb, 4, none⟩) := hf 4 _ _ rfl rfl (up_dep hr (by kernel_rfl))
      have kc : w9.cell? ⟨cb, 4, none⟩ = some (.int .i64 (na : Int)) := keep_cell hcm.1 (hbx.cell 4)
      have kl := World.block_lt_of_cell? _ _ kc
      simp only at kl
      refine GJ.op hj hdo hr rfl _ hdi (fun K hK => ?_)
      clear hj hf hdo hdi
      rw [e99, e1] at hK ⊢
      clear e99 e1
      go_simp
      exact hK _ _ (fun k v _ _ h => h) (fun t ht => rfl) ⟨hcm.1.trans ((Below.refl _ _).mono hcm.1.size), (by first | exact hcm.2 | rfl)⟩
    · have e99 : f 3 = v0 := hcm.2
      have e1 : f 80 = .int .i64 (na : Int) := hf 5 _ _ rfl rfl (up_dep hr (by kernel_rfl))
      refine GJ.op hj hdo hr rfl _ hdi (fun K hK => ?_)
      clear hj hf hdo hdi
      rw [e99, e1] at hK ⊢
      clear e99 e1
      go_simp
      refine (rdecimal_c w9 na hna).mono ?_
      rintro e w10 ⟨rfl, hb10⟩
      exact hK _ _ (fun k v _ _ h => KS.st _ _ _ _ (Fx.of_below hb10) h) (fun t ht => rfl) ⟨hcm.1.trans (hb10.mono hcm.1.size), (by first | exact hcm.2 | rfl)⟩
    · have e99 : f 3 = v0 := hcm.2
      have e1 : f 78 = .string (bs (dd ni)) := hf 3 _ _ rfl rfl (up_dep hr (by kernel_rfl))
      have e2 : f 81 = .string (bs (dd na)) := hf 6 _ _ rfl rfl (up_dep hr (by kernel_rfl))
      refine GJ.op hj hdo hr rfl _ hdi (fun K hK => ?_)
      clear hj hf hdo hdi
      rw [e99, e1, e2] at hK ⊢
      clear e99 e1 e2
      go_simp
      exact hK _ _ (fun k v _ _ h => KS.st _ _ _ _ (Fx.of_below (held_alloc (Below.refl _ _))) h) (fun t ht => ⟨w9.heap.size, hcm.1.size, rfl, Box.new _ _ _⟩) ⟨hcm.1.trans ((held_alloc (Below.refl _ _)).mono hcm.1.size), (by first | exact hcm.2 | rfl)⟩
  · intro listed a w10 hu hj
    obtain ⟨f, hae, hcm, hf⟩ := hj.opened [75, 76, 77, 78, 79, 80, 81, 82, 83, 3] (by kernel_rfl)
    simp only [List.foldl_cons, List.foldl_nil, List.setIfInBounds_toArray, List.set_cons_zero, List.set_cons_succ] at hae
    subst hae
    replace hcm : Below wr.heap.size wr w10 ∧ f 3 = v0 := hcm
    have e1 : f 75 = v0 := hf 0 _ _ rfl rfl (hu 0 (by omega))
    obtain ⟨g, hg, e4, hbg⟩ : ∃ g, wr.heap.size ≤ g ∧ f 82 = .slice (some ⟨g, 0, none⟩) 4 4 ∧ Box w10 g ([sFeed, dd ni, sAt, dd na].map fun n => Value.string (bs n)).toArray 9 := hf 7 _ _ rfl rfl (hu 7 (by omega))
    replace hcm : Below wr.heap.size wr w10 := hcm.1
    have HF := Lib.hid hcm
    have HOW := Lib.hid (ho.after hcm)
    have HSL : Hid (SlN (fun _ => True) w10 (.slice (some ⟨g, 0, none⟩) 4 4) [sFeed, dd ni, sAt, dd na]) := SlN.boxL (by simp only [List.mem_cons, List.not_mem_nil, or_false]; rintro n (rfl | rfl | rfl | rfl) <;> first | exact domW_len64 _ | exact dd_len64 (by omega) | exact hnl | decide) (by simp) hbg
    have hwl : ([sFeed, dd ni, sAt, dd na] : List (List UInt8)).length = 4 := rfl
    have hbw : base ≤ w10.heap.size := Nat.le_trans hbs hcm.size
    clear hcm hf hj hu hbg
    rw [e1, e4]
    clear e1 e4
    generalize f 76 = g76
    generalize f 77 = g77
    generalize f 78 = g78
    generalize f 79 = g79
    generalize f 80 = g80
    generalize f 81 = g81
    generalize f 83 = g83
    generalize f 3 = g3
    clear f
    simp only [List.drop_succ_cons, List.drop_zero]
    refine wpList_appN rfl (.tmp 75) (.tmp 82) rfl base v0 _ r [sFeed, dd ni, sAt, dd na] rfl HOW.out rfl HSL.out (by rw [hwl]; omega) hbw (fun v2 w2 hown2 hf2 hb2 => ?_)
    have HO2 := Lib.hid hown2
    have HB2 : Hid (Below base wr w2) := (HF.out.mono hbs).trans hb2
    clear hown2 hf2 hb2 HOW HSL HF hwl hbw
    simp only [Act.put, List.setIfInBounds_toArray, List.set_cons_zero, List.set_cons_succ]
    go_wp2_with fail
    exact hQ.out _ _ _ _ _ _ _ _ _ _ _ HO2.out HB2.out
set_option maxRecDepth 100000 in
set_option maxHeartbeats 8000000 in
theorem rtexts_r18 (ops : Array Oper) (hops : (Tryz.f27.body.bind (regOf 18)) = some ops) {wr : World} {cb base : Nat} {r : List (List UInt8)} {dm : Nat} {na : Nat} {k v0 vi o vn i b : Value} {Q : Exit → Act → World → Prop} {x0 x2 x4 x5 x6 x7 x8 x9 x10 x11 x12 x13 x14 x15 x16 x17 x18 x19 x20 x21 x22 x23 x24 x25 x26 x27 x28 x29 x30 x31 x32 x33 x34 x35 x36 x37 x38 x39 x40 x41 x42 x43 x44 x45 x46 x47 x48 x49 x50 x51 x52 x53 x54 x55 x56 x57 x58 x59 x60 x61 x62 x63 x64 x65 x66 x67 x68 x69 x70 x71 x72 x73 x74 x75 x76 x77 x78 x79 x80 x81 x82 x83 x84 x85 x86 x87 x88 x89 x90 x91 x92 x93 x94 x95 x96 x97 x98 x99 x100 x101 x102 x103 x104 x105 x106 x107 x108 x109 x110 x111 x112 x113 x114 x115 x116 x117 x118 x119 x120 x121 x122 x123 x124 x125 x126 x127 x128 x129 x130 x131 : Value}
    (hbx : Box wr cb #[k, vn, .int .u8 (dm : Int), i, .int .i64 (na : Int), b, vi, o] 43) (ho : OwnN wr base v0 r) (hrl : r.length ≤ 100000) (hbs : base ≤ wr.heap.size) (hdm : dm < 256) (hna : na ≤ 999999999)
    (hQ : ∀ (W : World) (v' : Value) (y86 y87 y88 y89 y90 y91 y92 y93 y94 : Value), OwnN W base v' (r ++ [dd na, sPer, domW dm]) → Below base wr W → Q .normal ⟨[x0, .pointer (some ⟨cb, 0, none⟩), x2, v', x4, x5, x6, x7, x8, x9, x10, x11, x12, x13, x14, x15, x16, x17, x18, x19, x20, x21, x22, x23, x24, x25, x26, x27, x28, x29, x30, x31, x32, x33, x34, x35, x36, x37, x38, x39, x40, x41, x42, x43, x44, x45, x46, x47, x48, x49, x50, x51, x52, x53, x54, x55, x56, x57, x58, x59, x60, x61, x62, x63, x64, x65, x66, x67, x68, x69, x70, x71, x72, x73, x74, x75, x76, x77, x78, x79, x80, x81, x82, x83, x84, x85, y86, y87, y88, y89, y90, y91, y92, y93, y94, x95, x96, x97, x98, x99, x100, x101, x102, x103, x104, x105, x106, x107, x108, x109, x110, x111, x112, x113, x114, x115, x116, x117, x118, x119, x120, x121, x122, x123, x124, x125, x126, x127, x128, x129, x130, x131].toArray, []⟩ W) :
    (Code.region 18 ops true).wp Tryz.prog Q ⟨[x0, .pointer (some ⟨cb, 0, none⟩), x2, v0, x4, x5, x6, x7, x8, x9, x10, x11, x12, x13, x14, x15, x16, x17, x18, x19, x20, x21, x22, x23, x24, x25, x26, x27, x28, x29, x30, x31, x32, x33, x34, x35, x36, x37, x38, x39, x40, x41, x42, x43, x44, x45, x46, x47, x48, x49, x50, x51, x52, x53, x54, x55, x56, x57, x58, x59, x60, x61, x62, x63, x64, x65, x66, x67, x68, x69, x70, x71, x72, x73, x74, x75, x76, x77, x78, x79, x80, x81, x82, x83, x84, x85, x86, x87, x88, x89, x90, x91, x92, x93, x94, x95, x96, x97, x98, x99, x100, x101, x102, x103, x104, x105, x106, x107, x108, x109, x110, x111, x112, x113, x114, x115, x116, x117, x118, x119, x120, x121, x122, x123, x124, x125, x126, x127, x128, x129, x130, x131].toArray, []⟩ wr := by
  simp only [Tryz.f27, Option.bind_some, regOf] at hops
  replace hops := Option.some.inj hops
  subst hops
  replace hQ := Lib.hid hQ
  refine wp_gj_tail (S := SKS (S := (fun _ => False)) (fun κ => match κ with | 0 => KS.eq (v0) | 1 => KS.eq (.pointer (some ⟨cb, 4, none⟩)) | 2 => KS.eq (.int .i64 (na : Int)) | 3 => KS.eq (.string (bs (dd na))) | 4 => KS.eq (.pointer (some ⟨cb, 2, none⟩)) | 5 => KS.eq (.int .u8 (dm : Int)) | 6 => KS.eq (.string (bs (domW dm))) | 7 => KS.wds wr.heap.size [dd na, sPer, domW dm] (fun b e => e.elim) | _ => KS.any)) (C := fun _ f u => Below wr.heap.size wr u ∧ f 3 = v0) 8 (by kernel_rfl) (by decide) (by kernel_rfl) (by kernel_rfl) ?_ ?_ (GJ.start ⟨below_dr (Below.refl _ _), rfl⟩)
  · intro listed a w9 i hin hr hj
    obtain ⟨hi12, hun, _, _, _⟩ := ready_mem hr
    have h12 : i ∈ List.range 8 := List.mem_range.2 hin
    simp only [List.range, List.range.loop, List.mem_cons, List.not_mem_nil, or_false] at h12
    obtain ⟨f, hae, hcm, hf, hdo, hdi⟩ := hj.open3 [86, 87, 88, 89, 90, 91, 92, 93, 94, 3] (by kernel_rfl) (by kernel_rfl)
    simp only [List.foldl_cons, List.foldl_nil, List.setIfInBounds_toArray, List.set_cons_zero, List.set_cons_succ] at hae
    subst hae
    replace hcm : Below wr.heap.size wr w9 ∧ f 3 = v0 := hcm
    rcases h12 with rfl | rfl | rfl | rfl | rfl | rfl | rfl | rfl
    · have e99 : f 3 = v0 := hcm.2
      refine GJ.op hj hdo hr rfl _ hdi (fun K hK => ?_)
      clear hj hf hdo hdi
      rw [e99] at hK ⊢
      clear e99
      go_simp
      exact hK _ _ (fun k v _ _ h => h) (fun t ht => rfl) ⟨hcm.1.trans ((Below.refl _ _).mono hcm.1.size), (by first | exact hcm.2 | rfl)⟩
    · have e99 : f 3 = v0 := hcm.2
      refine GJ.op hj hdo hr rfl _ hdi (fun K hK => ?_)
      clear hj hf hdo hdi
      rw [e99] at hK ⊢
      clear e99
      go_simp
      exact hK _ _ (fun k v _ _ h => h) (fun t ht => rfl) ⟨hcm.1.trans ((Below.refl _ _).mono hcm.1.size), (by first | exact hcm.2 | rfl)⟩
    · have e99 : f 3 = v0 := hcm.2
      have e1 : f 87 = .pointer (some ⟨cb, 4, none⟩) := hf 1 _ _ rfl rfl (up_dep hr (by kernel_rfl))
      have kc : w9.cell? ⟨cb, 4, none⟩ = some (.int .i64 (na : Int)) := keep_cell hcm.1 (hbx.cell 4)
      have kl := World.block_lt_of_cell? _ _ kc
      simp only at kl
      refine GJ.op hj hdo hr rfl _ hdi (fun K hK => ?_)
      clear hj hf hdo hdi
      rw [e99, e1] at hK ⊢
      clear e99 e1
      go_simp
      exact hK _ _ (fun k v _ _ h => h) (fun t ht => rfl) ⟨hcm.1.trans ((Below.refl _ _).mono hcm.1.size), (by first | exact hcm.2 | rfl)⟩
    · have e99 : f 3 = v0 := hcm.2
      have e1 : f 88 = .int .i64 (na : Int) := hf 2 _ _ rfl rfl (up_dep hr (by kernel_rfl))
      refine GJ.op hj hdo hr rfl _ hdi (fun K hK => ?_)
      clear hj hf hdo hdi
      rw [e99, e1] at hK ⊢
      clear e99 e1
      go_simp
      refine (rdecimal_c w9 na hna).mono ?_
      rintro e w10 ⟨rfl, hb10⟩
      exact hK _ _ (fun k v _ _ h => KS.st _ _ _ _ (Fx.of_below hb10) h) (fun t ht => rfl) ⟨hcm.1.trans (hb10.mono hcm.1.size), (by first | exact hcm.2 | rfl)⟩
    · have e99 : f 3 = v0 := hcm.2
      refine GJ.op hj hdo hr rfl _ hdi (fun K hK => ?_)
      clear hj hf hdo hdi
      rw [e99] at hK ⊢
      clear e99
      go_simp
      exact hK _ _ (fun k v _ _ h => h) (fun t ht => rfl) ⟨hcm.1.trans ((Below.refl _ _).mono hcm.1.size), (by first | exact hcm.2 | rfl)⟩
    · have e99 : f 3 = v0 := hcm.2
      have e1 : f 90 = .pointer (some ⟨cb, 2, none⟩) := hf 4 _ _ rfl rfl (up_dep hr (by kernel_rfl))
      have kc : w9.cell? ⟨cb, 2, none⟩ = some (.int .u8 (dm : Int)) := keep_cell hcm.1 (hbx.cell 2)
      have kl := World.block_lt_of_cell? _ _ kc
      simp only at kl
      refine GJ.op hj hdo hr rfl _ hdi (fun K hK => ?_)
      clear hj hf hdo hdi
      rw [e99, e1] at hK ⊢
      clear e99 e1
      go_simp
      exact hK _ _ (fun k v _ _ h => h) (fun t ht => rfl) ⟨hcm.1.trans ((Below.refl _ _).mono hcm.1.size), (by first | exact hcm.2 | rfl)⟩
    · have e99 : f 3 = v0 := hcm.2
      have e1 : f 91 = .int .u8 (dm : Int) := hf 5 _ _ rfl rfl (up_dep hr (by kernel_rfl))
      refine GJ.op hj hdo hr rfl _ hdi (fun K hK => ?_)
      clear hj hf hdo hdi
      rw [e99, e1] at hK ⊢
      clear e99 e1
      go_simp
      refine (rscopeW_c w9 dm hdm).mono ?_
      rintro e w10 ⟨rfl, hb10⟩
      exact hK _ _ (fun k v _ _ h => KS.st _ _ _ _ (Fx.of_below hb10) h) (fun t ht => rfl) ⟨hcm.1.trans (hb10.mono hcm.1.size), (by first | exact hcm.2 | rfl)⟩
    · have e99 : f 3 = v0 := hcm.2
      have e1 : f 89 = .string (bs (dd na)) := hf 3 _ _ rfl rfl (up_dep hr (by kernel_rfl))
      have e2 : f 92 = .string (bs (domW dm)) := hf 6 _ _ rfl rfl (up_dep hr (by kernel_rfl))
      refine GJ.op hj hdo hr rfl _ hdi (fun K hK => ?_)
      clear hj hf hdo hdi
      rw [e99, e1, e2] at hK ⊢
      clear e99 e1 e2
      go_simp
      exact hK _ _ (fun k v _ _ h => KS.st _ _ _ _ (Fx.of_below (held_alloc (Below.refl _ _))) h) (fun t ht => ⟨w9.heap.size, hcm.1.size, rfl, Box.new _ _ _⟩) ⟨hcm.1.trans ((held_alloc (Below.refl _ _)).mono hcm.1.size), (by first | exact hcm.2 | rfl)⟩
  · intro listed a w10 hu hj
    obtain ⟨f, hae, hcm, hf⟩ := hj.opened [86, 87, 88, 89, 90, 91, 92, 93, 94, 3] (by kernel_rfl)
    simp only [List.foldl_cons, List.foldl_nil, List.setIfInBounds_toArray, List.set_cons_zero, List.set_cons_succ] at hae
    subst hae
    replace hcm : Below wr.heap.size wr w10 ∧ f 3 = v0 := hcm
    have e1 : f 86 = v0 := hf 0 _ _ rfl rfl (hu 0 (by omega))
    obtain ⟨g, hg, e4, hbg⟩ : ∃ g, wr.heap.size ≤ g ∧ f 93 = .slice (some ⟨g, 0, none⟩) 3 3 ∧ Box w10 g ([dd na, sPer, domW dm].map fun n => Value.string (bs n)).toArray 9 := hf 7 _ _ rfl rfl (hu 7 (by omega))
    replace hcm : Below wr.heap.size wr w10 := hcm.1
    have HF := Lib.hid hcm
    have HOW := Lib.hid (ho.after hcm)
    have HSL : Hid (SlN (fun _ => True) w10 (.slice (some ⟨g, 0, none⟩) 3 3) [dd na, sPer, domW dm]) := SlN.boxL (by simp only [List.mem_cons, List.not_mem_nil, or_false]; rintro n (rfl | rfl | rfl) <;> first | exact domW_len64 _ | exact dd_len64 (by omega) | exact hnl | decide) (by simp) hbg
    have hwl : ([dd na, sPer, domW dm] : List (List UInt8)).length = 3 := rfl
    have hbw : base ≤ w10.heap.size := Nat.le_trans hbs hcm.size
    clear hcm hf hj hu hbg
    rw [e1, e4]
    clear e1 e4
    generalize f 87 = g87
    generalize f 88 = g88
    generalize f 89 = g89
    generalize f 90 = g90
    generalize f 91 = g91
    generalize f 92 = g92
    generalize f 94 = g94
    generalize f 3 = g3
    clear f
    simp only [List.drop_succ_cons, List.drop_zero]
    refine wpList_appN rfl (.tmp 86) (.tmp 93) rfl base v0 _ r [dd na, sPer, domW dm] rfl HOW.out rfl HSL.out (by rw [hwl]; omega) hbw (fun v2 w2 hown2 hf2 hb2 => ?_)
    have HO2 := Lib.hid hown2
    have HB2 : Hid (Below base wr w2) := (HF.out.mono hbs).trans hb2
    clear hown2 hf2 hb2 HOW HSL HF hwl hbw
    simp only [Act.put, List.setIfInBounds_toArray, List.set_cons_zero, List.set_cons_succ]
    go_wp2_with fail
    exact hQ.out _ _ _ _ _ _ _ _ _ _ _ HO2.out HB2.out
set_option maxRecDepth 100000 in
set_option maxHeartbeats 8000000 in
theorem rtexts_r27 (ops : Array Oper) (hops : (Tryz.f27.body.bind (regOf 27)) = some ops) {wr : World} {cb base : Nat} {r : List (List UInt8)} {bn on ln cn : Nat} {nm : List UInt8} {na : Nat} {k v0 vi o d i b : Value} {Q : Exit → Act → World → Prop} {x0 x2 x4 x5 x6 x7 x8 x9 x10 x11 x12 x13 x14 x15 x16 x17 x18 x19 x20 x21 x22 x23 x24 x25 x26 x27 x28 x29 x30 x31 x32 x33 x34 x35 x36 x37 x38 x39 x40 x41 x42 x43 x44 x45 x46 x47 x48 x49 x50 x51 x52 x53 x54 x55 x56 x57 x58 x59 x60 x61 x62 x63 x64 x65 x66 x67 x68 x69 x70 x71 x72 x73 x74 x75 x76 x77 x78 x79 x80 x81 x82 x83 x84 x85 x86 x87 x88 x89 x90 x91 x92 x93 x94 x95 x96 x97 x98 x99 x100 x101 x102 x103 x104 x105 x106 x107 x108 x109 x110 x111 x112 x113 x114 x115 x116 x117 x118 x119 x120 x121 x122 x123 x124 x125 x126 x127 x128 x129 x130 x131 : Value}
    (hbx : Box wr cb #[k, (.slice (some ⟨bn, on, none⟩) ln cn), d, i, .int .i64 (na : Int), b, vi, o] 43) (ho : OwnN wr base v0 r) (hrl : r.length ≤ 100000) (hbs : base ≤ wr.heap.size) (hna : na ≤ 999999999) (hln : 0 < ln) (hnl : nm.length ≤ 9223372036854775807) (hnm : wr.cell? ⟨bn, on, none⟩ = some (.string (bs nm)))
    (hQ : ∀ (W : World) (v' : Value) (y119 y120 y121 y122 y123 y124 y125 y126 y127 y128 : Value), OwnN W base v' (r ++ [nm, sWithin, dd na]) → Below base wr W → Q .normal ⟨[x0, .pointer (some ⟨cb, 0, none⟩), x2, v', x4, x5, x6, x7, x8, x9, x10, x11, x12, x13, x14, x15, x16, x17, x18, x19, x20, x21, x22, x23, x24, x25, x26, x27, x28, x29, x30, x31, x32, x33, x34, x35, x36, x37, x38, x39, x40, x41, x42, x43, x44, x45, x46, x47, x48, x49, x50, x51, x52, x53, x54, x55, x56, x57, x58, x59, x60, x61, x62, x63, x64, x65, x66, x67, x68, x69, x70, x71, x72, x73, x74, x75, x76, x77, x78, x79, x80, x81, x82, x83, x84, x85, x86, x87, x88, x89, x90, x91, x92, x93, x94, x95, x96, x97, x98, x99, x100, x101, x102, x103, x104, x105, x106, x107, x108, x109, x110, x111, x112, x113, x114, x115, x116, x117, x118, y119, y120, y121, y122, y123, y124, y125, y126, y127, y128, x129, x130, x131].toArray, []⟩ W) :
    (Code.region 27 ops true).wp Tryz.prog Q ⟨[x0, .pointer (some ⟨cb, 0, none⟩), x2, v0, x4, x5, x6, x7, x8, x9, x10, x11, x12, x13, x14, x15, x16, x17, x18, x19, x20, x21, x22, x23, x24, x25, x26, x27, x28, x29, x30, x31, x32, x33, x34, x35, x36, x37, x38, x39, x40, x41, x42, x43, x44, x45, x46, x47, x48, x49, x50, x51, x52, x53, x54, x55, x56, x57, x58, x59, x60, x61, x62, x63, x64, x65, x66, x67, x68, x69, x70, x71, x72, x73, x74, x75, x76, x77, x78, x79, x80, x81, x82, x83, x84, x85, x86, x87, x88, x89, x90, x91, x92, x93, x94, x95, x96, x97, x98, x99, x100, x101, x102, x103, x104, x105, x106, x107, x108, x109, x110, x111, x112, x113, x114, x115, x116, x117, x118, x119, x120, x121, x122, x123, x124, x125, x126, x127, x128, x129, x130, x131].toArray, []⟩ wr := by
  simp only [Tryz.f27, Option.bind_some, regOf] at hops
  replace hops := Option.some.inj hops
  subst hops
  replace hQ := Lib.hid hQ
  refine wp_gj_tail (S := SKS (S := (fun _ => False)) (fun κ => match κ with | 0 => KS.eq (v0) | 1 => KS.eq (.pointer (some ⟨cb, 1, none⟩)) | 2 => KS.eq (.slice (some ⟨bn, on, none⟩) ln cn) | 3 => KS.eq (.pointer (some ⟨bn, on, none⟩)) | 4 => KS.eq (.string (bs nm)) | 5 => KS.eq (.pointer (some ⟨cb, 4, none⟩)) | 6 => KS.eq (.int .i64 (na : Int)) | 7 => KS.eq (.string (bs (dd na))) | 8 => KS.wds wr.heap.size [nm, sWithin, dd na] (fun b e => e.elim) | _ => KS.any)) (C := fun _ f u => Below wr.heap.size wr u ∧ f 3 = v0) 9 (by kernel_rfl) (by decide) (by kernel_rfl) (by kernel_rfl) ?_ ?_ (GJ.start ⟨below_dr (Below.refl _ _), rfl⟩)
  · intro listed a w9 i hin hr hj
    obtain ⟨hi12, hun, _, _, _⟩ := ready_mem hr
    have h12 : i ∈ List.range 9 := List.mem_range.2 hin
    simp only [List.range, List.range.loop, List.mem_cons, List.not_mem_nil, or_false] at h12
    obtain ⟨f, hae, hcm, hf, hdo, hdi⟩ := hj.open3 [119, 120, 121, 122, 123, 124, 125, 126, 127, 128, 3] (by kernel_rfl) (by kernel_rfl)
    simp only [List.foldl_cons, List.foldl_nil, List.setIfInBounds_toArray, List.set_cons_zero, List.set_cons_succ] at hae
    subst hae
    replace hcm : Below wr.heap.size wr w9 ∧ f 3 = v0 := hcm
    rcases h12 with rfl | rfl | rfl | rfl | rfl | rfl | rfl | rfl | rfl
    · have e99 : f 3 = v0 := hcm.2
      refine GJ.op hj hdo hr rfl _ hdi (fun K hK => ?_)
      clear hj hf hdo hdi
      rw [e99] at hK ⊢
      clear e99
      go_simp
      exact hK _ _ (fun k v _ _ h => h) (fun t ht => rfl) ⟨hcm.1.trans ((Below.refl _ _).mono hcm.1.size), (by first | exact hcm.2 | rfl)⟩
    · have e99 : f 3 = v0 := hcm.2
      refine GJ.op hj hdo hr rfl _ hdi (fun K hK => ?_)
      clear hj hf hdo hdi
      rw [e99] at hK ⊢
      clear e99
      go_simp
      exact hK _ _ (fun k v _ _ h => h) (fun t ht => rfl) ⟨hcm.1.trans ((Below.refl _ _).mono hcm.1.size), (by first | exact hcm.2 | rfl)⟩
    · have e99 : f 3 = v0 := hcm.2
      have e1 : f 120 = .pointer (some ⟨cb, 1, none⟩) := hf 1 _ _ rfl rfl (up_dep hr (by kernel_rfl))
      have kc : w9.cell? ⟨cb, 1, none⟩ = some (.slice (some ⟨bn, on, none⟩) ln cn) := keep_cell hcm.1 (hbx.cell 1)
      have kl := World.block_lt_of_cell? _ _ kc
      simp only at kl
      refine GJ.op hj hdo hr rfl _ hdi (fun K hK => ?_)
      clear hj hf hdo hdi
      rw [e99, e1] at hK ⊢
      clear e99 e1
      go_simp
      exact hK _ _ (fun k v _ _ h => h) (fun t ht => rfl) ⟨hcm.1.trans ((Below.refl _ _).mono hcm.1.size), (by first | exact hcm.2 | rfl)⟩
    · have e99 : f 3 = v0 := hcm.2
      have e1 : f 121 = .slice (some ⟨bn, on, none⟩) ln cn := hf 2 _ _ rfl rfl (up_dep hr (by kernel_rfl))
      refine GJ.op hj hdo hr rfl _ hdi (fun K hK => ?_)
      clear hj hf hdo hdi
      rw [e99, e1] at hK ⊢
      clear e99 e1
      go_simp
      exact hK _ _ (fun k v _ _ h => h) (fun t ht => rfl) ⟨hcm.1.trans ((Below.refl _ _).mono hcm.1.size), (by first | exact hcm.2 | rfl)⟩
    · have e99 : f 3 = v0 := hcm.2
      have e1 : f 122 = .pointer (some ⟨bn, on, none⟩) := hf 3 _ _ rfl rfl (up_dep hr (by kernel_rfl))
      have kc : w9.cell? ⟨bn, on, none⟩ = some (.string (bs nm)) := keep_cell hcm.1 hnm
      have kl := World.block_lt_of_cell? _ _ kc
      simp only at kl
      refine GJ.op hj hdo hr rfl _ hdi (fun K hK => ?_)
      clear hj hf hdo hdi
      rw [e99, e1] at hK ⊢
      clear e99 e1
      go_simp
      exact hK _ _ (fun k v _ _ h => h) (fun t ht => rfl) ⟨hcm.1.trans ((Below.refl _ _).mono hcm.1.size), (by first | exact hcm.2 | rfl)⟩
    · have e99 : f 3 = v0 := hcm.2
      refine GJ.op hj hdo hr rfl _ hdi (fun K hK => ?_)
      clear hj hf hdo hdi
      rw [e99] at hK ⊢
      clear e99
      go_simp
      exact hK _ _ (fun k v _ _ h => h) (fun t ht => rfl) ⟨hcm.1.trans ((Below.refl _ _).mono hcm.1.size), (by first | exact hcm.2 | rfl)⟩
    · have e99 : f 3 = v0 := hcm.2
      have e1 : f 124 = .pointer (some ⟨cb, 4, none⟩) := hf 5 _ _ rfl rfl (up_dep hr (by kernel_rfl))
      have kc : w9.cell? ⟨cb, 4, none⟩ = some (.int .i64 (na : Int)) := keep_cell hcm.1 (hbx.cell 4)
      have kl := World.block_lt_of_cell? _ _ kc
      simp only at kl
      refine GJ.op hj hdo hr rfl _ hdi (fun K hK => ?_)
      clear hj hf hdo hdi
      rw [e99, e1] at hK ⊢
      clear e99 e1
      go_simp
      exact hK _ _ (fun k v _ _ h => h) (fun t ht => rfl) ⟨hcm.1.trans ((Below.refl _ _).mono hcm.1.size), (by first | exact hcm.2 | rfl)⟩
    · have e99 : f 3 = v0 := hcm.2
      have e1 : f 125 = .int .i64 (na : Int) := hf 6 _ _ rfl rfl (up_dep hr (by kernel_rfl))
      refine GJ.op hj hdo hr rfl _ hdi (fun K hK => ?_)
      clear hj hf hdo hdi
      rw [e99, e1] at hK ⊢
      clear e99 e1
      go_simp
      refine (rdecimal_c w9 na hna).mono ?_
      rintro e w10 ⟨rfl, hb10⟩
      exact hK _ _ (fun k v _ _ h => KS.st _ _ _ _ (Fx.of_below hb10) h) (fun t ht => rfl) ⟨hcm.1.trans (hb10.mono hcm.1.size), (by first | exact hcm.2 | rfl)⟩
    · have e99 : f 3 = v0 := hcm.2
      have e1 : f 123 = .string (bs (nm)) := hf 4 _ _ rfl rfl (up_dep hr (by kernel_rfl))
      have e2 : f 126 = .string (bs (dd na)) := hf 7 _ _ rfl rfl (up_dep hr (by kernel_rfl))
      refine GJ.op hj hdo hr rfl _ hdi (fun K hK => ?_)
      clear hj hf hdo hdi
      rw [e99, e1, e2] at hK ⊢
      clear e99 e1 e2
      go_simp
      exact hK _ _ (fun k v _ _ h => KS.st _ _ _ _ (Fx.of_below (held_alloc (Below.refl _ _))) h) (fun t ht => ⟨w9.heap.size, hcm.1.size, rfl, Box.new _ _ _⟩) ⟨hcm.1.trans ((held_alloc (Below.refl _ _)).mono hcm.1.size), (by first | exact hcm.2 | rfl)⟩
  · intro listed a w10 hu hj
    obtain ⟨f, hae, hcm, hf⟩ := hj.opened [119, 120, 121, 122, 123, 124, 125, 126, 127, 128, 3] (by kernel_rfl)
    simp only [List.foldl_cons, List.foldl_nil, List.setIfInBounds_toArray, List.set_cons_zero, List.set_cons_succ] at hae
    subst hae
    replace hcm : Below wr.heap.size wr w10 ∧ f 3 = v0 := hcm
    have e1 : f 119 = v0 := hf 0 _ _ rfl rfl (hu 0 (by omega))
    obtain ⟨g, hg, e4, hbg⟩ : ∃ g, wr.heap.size ≤ g ∧ f 127 = .slice (some ⟨g, 0, none⟩) 3 3 ∧ Box w10 g ([nm, sWithin, dd na].map fun n => Value.string (bs n)).toArray 9 := hf 8 _ _ rfl rfl (hu 8 (by omega))
    replace hcm : Below wr.heap.size wr w10 := hcm.1
    have HF := Lib.hid hcm
    have HOW := Lib.hid (ho.after hcm)
    have HSL : Hid (SlN (fun _ => True) w10 (.slice (some ⟨g, 0, none⟩) 3 3) [nm, sWithin, dd na]) := SlN.boxL (by simp only [List.mem_cons, List.not_mem_nil, or_false]; rintro n (rfl | rfl | rfl) <;> first | exact domW_len64 _ | exact dd_len64 (by omega) | exact hnl | decide) (by simp) hbg
    have hwl : ([nm, sWithin, dd na] : List (List UInt8)).length = 3 := rfl
    have hbw : base ≤ w10.heap.size := Nat.le_trans hbs hcm.size
    clear hcm hf hj hu hbg
    rw [e1, e4]
    clear e1 e4
    generalize f 120 = g120
    generalize f 121 = g121
    generalize f 122 = g122
    generalize f 123 = g123
    generalize f 124 = g124
    generalize f 125 = g125
    generalize f 126 = g126
    generalize f 128 = g128
    generalize f 3 = g3
    clear f
    simp only [List.drop_succ_cons, List.drop_zero]
    refine wpList_appN rfl (.tmp 119) (.tmp 127) rfl base v0 _ r [nm, sWithin, dd na] rfl HOW.out rfl HSL.out (by rw [hwl]; omega) hbw (fun v2 w2 hown2 hf2 hb2 => ?_)
    have HO2 := Lib.hid hown2
    have HB2 : Hid (Below base wr w2) := (HF.out.mono hbs).trans hb2
    clear hown2 hf2 hb2 HOW HSL HF hwl hbw
    simp only [Act.put, List.setIfInBounds_toArray, List.set_cons_zero, List.set_cons_succ]
    go_wp2_with fail
    exact hQ.out _ _ _ _ _ _ _ _ _ _ _ _ HO2.out HB2.out
end Go.Proofs.YtganlldidjbpiaaGreatDoor

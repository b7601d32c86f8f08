/- Walks of package syntax: formed, the names.
   Walks of package syntax: formed. -/
import Derived.Test.YtganlldidjbpiaaGreatDoorK19
import Derived.Test.YtganlldidjbpiaaGreatDoorK20
set_option linter.unusedVariables false
namespace Go.Proofs.YtganlldidjbpiaaGreatDoor
open Go.RowKit Go.Shelf

set_option maxRecDepth 100000 in
set_option maxHeartbeats 8000000 in
theorem formed_r9 (ops : Array Oper) (hops : (Tryz.f30.body.bind (regOf 9)) = some ops) {N C PB cn cp : Nat} {qn qp : Option Addr} {D : Nat → Prop} {c : Cl} {w2 : World} {Q : Exit → Act → World → Prop} {x0 x1 x3 x4 x5 x6 x7 x9 x10 x11 x12 x13 x14 x15 x16 x17 x18 x19 x20 x21 x22 x23 x24 x25 x26 x27 x28 x29 x30 x31 x32 x33 x34 x35 x36 x37 x38 x39 x40 x41 x42 x43 x44 x45 x46 x47 x48 x49 x50 x51 x52 x53 x54 x55 x56 x57 x58 x59 x60 x61 x62 x63 x64 x65 x66 x67 x103 x104 x105 x106 x107 x108 x109 x110 x111 x112 x113 x114 x115 x116 x117 x118 x119 x120 : Value} (hk0 : w2.cell? ⟨C, 0, none⟩ = some (.int .u8 (c.kind : Int))) (hk1 : w2.cell? ⟨C, 1, none⟩ = some (.slice qn c.names.length cn)) (hk2 : w2.cell? ⟨C, 2, none⟩ = some (.int .u8 (c.dom : Int))) (hk3 : w2.cell? ⟨C, 3, none⟩ = some (.int .i64 c.idx)) (hk4 : w2.cell? ⟨C, 4, none⟩ = some (.int .i64 c.a)) (hk5 : w2.cell? ⟨C, 5, none⟩ = some (.int .i64 c.b)) (hkp : w2.cell? ⟨PB, 0, none⟩ = some (.slice qp (partsOf c.kind).length cp)) (hpl : SlP D w2 (.slice qp (partsOf c.kind).length cp) (partsOf c.kind)) 
    (hQ : ∀ (W : World) (y69 y70 y71 y72 y73 y74 y75 y76 y77 y78 y79 y80 y81 y82 y83 y84 y85 y86 y87 y88 y89 y90 y91 y92 y93 y94 y95 y96 y97 y98 y99 y100 y101 y102 : Value), Below w2.heap.size w2 W → Q .normal ⟨[x0, x1, .pointer (some ⟨C, 0, none⟩), x3, x4, x5, x6, x7, .func (.func 54) #[] #[.pointer (some ⟨PB, 0, none⟩)], x9, x10, x11, x12, x13, x14, x15, x16, x17, x18, x19, x20, x21, x22, x23, x24, x25, x26, x27, x28, x29, x30, x31, x32, x33, x34, x35, x36, x37, x38, x39, x40, x41, x42, x43, x44, x45, x46, x47, x48, x49, x50, x51, x52, x53, x54, x55, x56, x57, x58, x59, x60, x61, x62, x63, x64, x65, x66, x67, .bool (((hasF c.kind 1 && decide (c.names.length ≠ 1)) || ((hasF c.kind 2 && decide (c.names.length = 0)) || (!(hasF c.kind 1) && (!(hasF c.kind 2) && decide (0 < c.names.length)))))), y69, y70, y71, y72, y73, y74, y75, y76, y77, y78, y79, y80, y81, y82, y83, y84, y85, y86, y87, y88, y89, y90, y91, y92, y93, y94, y95, y96, y97, y98, y99, y100, y101, y102, x103, x104, x105, x106, x107, x108, x109, x110, x111, x112, x113, x114, x115, x116, x117, x118, x119, x120].toArray, []⟩ W) :
    (Code.region 9 ops false).wp Tryz.prog Q ⟨[x0, x1, .pointer (some ⟨C, 0, none⟩), x3, x4, x5, x6, x7, .func (.func 54) #[] #[.pointer (some ⟨PB, 0, none⟩)], x9, x10, x11, x12, x13, x14, x15, x16, x17, x18, x19, x20, x21, x22, x23, x24, x25, x26, x27, x28, x29, x30, x31, x32, x33, x34, x35, x36, x37, x38, x39, x40, x41, x42, x43, x44, x45, x46, x47, x48, x49, x50, x51, x52, x53, x54, x55, x56, x57, x58, x59, x60, x61, x62, x63, x64, x65, x66, x67, undef, undef, undef, undef, undef, undef, undef, undef, undef, undef, undef, undef, undef, undef, undef, undef, undef, undef, undef, undef, undef, undef, undef, undef, undef, undef, undef, undef, undef, undef, undef, undef, undef, undef, undef, x103, x104, x105, x106, x107, x108, x109, x110, x111, x112, x113, x114, x115, x116, x117, x118, x119, x120].toArray, []⟩ w2 := by
  simp only [Tryz.f30, Option.bind_some, regOf] at hops
  replace hops := Option.some.inj hops
  subst hops
  replace hQ := Lib.hid hQ
  obtain ⟨b1, hb1⟩ : ∃ b, hasF c.kind 1 = b := ⟨_, rfl⟩
  replace hb1 := Lib.hid hb1
  obtain ⟨b2, hb2⟩ : ∃ b, hasF c.kind 2 = b := ⟨_, rfl⟩
  replace hb2 := Lib.hid hb2
  rw [hb1.out, hb2.out] at hQ
  replace hpl := Lib.hid hpl
  clear hk0 hk2 hk3 hk4 hk5
  have hl0 := World.block_lt_of_cell? _ _ hk1
  have hm0 := World.block_lt_of_cell? _ _ hkp
  simp only at hl0 hm0
  cases b1 with
  | true =>
    cases b2 with
    | true =>
      by_cases hln : c.names.length = 1
      · have qa : ((((c.names.length : Nat)) : Int) != 1) = false := bne_eq_false_iff_eq.2 (by omega)
        have qb : ((((c.names.length : Nat)) : Int) == 0) = false := beq_eq_false_iff_ne.2 (by omega)
        have qa2 : decide (c.names.length ≠ 1) = false := decide_eq_false (fun h => h hln)
        have qb2 : decide (c.names.length = 0) = false := decide_eq_false (by omega)
        rw [qa2, qb2] at hQ
        simp only [Bool.not_true, Bool.false_and, Bool.and_false, Bool.or_false] at hQ
        clear hln
        go_wp2_with fail
        refine (has_c _ _ c.kind 1 PB _ hkp hpl.out).mono ?_
        rw [hb1.out]
        rintro e v1 ⟨rfl, hb⟩
        have hB1 : Hid (Below w2.heap.size w2 v1) := hb
        replace hpl := Lib.hid (SlP.after hpl.out hb)
        replace hk1 := keep_cell hb hk1
        replace hkp := keep_cell hb hkp
        have hl1 := World.block_lt_of_cell? _ _ hk1
        have hm1 := World.block_lt_of_cell? _ _ hkp
        simp only at hl1 hm1
        clear hb
        go_wp2_with fail
        refine (has_c _ _ c.kind 2 PB _ hkp hpl.out).mono ?_
        rw [hb2.out]
        rintro e v2 ⟨rfl, hb⟩
        have hB2 : Hid (Below w2.heap.size w2 v2) := hB1.out.trans (hb.mono hB1.out.size)
        replace hpl := Lib.hid (SlP.after hpl.out hb)
        replace hk1 := keep_cell hb hk1
        replace hkp := keep_cell hb hkp
        have hl2 := World.block_lt_of_cell? _ _ hk1
        have hm2 := World.block_lt_of_cell? _ _ hkp
        simp only at hl2 hm2
        clear hb
        go_wp2_with fail
        refine (has_c _ _ c.kind 1 PB _ hkp hpl.out).mono ?_
        rw [hb1.out]
        rintro e v3 ⟨rfl, hb⟩
        have hB3 : Hid (Below w2.heap.size w2 v3) := hB2.out.trans (hb.mono hB2.out.size)
        replace hpl := Lib.hid (SlP.after hpl.out hb)
        replace hk1 := keep_cell hb hk1
        replace hkp := keep_cell hb hkp
        have hl3 := World.block_lt_of_cell? _ _ hk1
        have hm3 := World.block_lt_of_cell? _ _ hkp
        simp only at hl3 hm3
        clear hb
        go_wp2_with fail
        exact hQ.out _ _ _ _ _ _ _ _ _ _ _ _ _ _ _ _ _ _ _ _ _ _ _ _ _ _ _ _ _ _ _ _ _ _ _ hB3.out
      · replace hln : c.names.length ≠ 1 := hln
        have qa : ((((c.names.length : Nat)) : Int) != 1) = true := bne_iff_ne.2 (by omega)
        have qa2 : decide (c.names.length ≠ 1) = true := decide_eq_true hln
        rw [qa2] at hQ
        simp only [Bool.not_true, Bool.true_and, Bool.false_and, Bool.and_true, Bool.and_false, Bool.true_or, Bool.or_false] at hQ
        clear hln
        go_wp2_with fail
        refine (has_c _ _ c.kind 1 PB _ hkp hpl.out).mono ?_
        rw [hb1.out]
        rintro e v1 ⟨rfl, hb⟩
        have hB1 : Hid (Below w2.heap.size w2 v1) := hb
        replace hpl := Lib.hid (SlP.after hpl.out hb)
        replace hk1 := keep_cell hb hk1
        replace hkp := keep_cell hb hkp
        have hl1 := World.block_lt_of_cell? _ _ hk1
        have hm1 := World.block_lt_of_cell? _ _ hkp
        simp only at hl1 hm1
        clear hb
        go_wp2_with fail
        exact hQ.out _ _ _ _ _ _ _ _ _ _ _ _ _ _ _ _ _ _ _ _ _ _ _ _ _ _ _ _ _ _ _ _ _ _ _ hB1.out
    | false =>
      by_cases hln : c.names.length = 1
      · have qa : ((((c.names.length : Nat)) : Int) != 1) = false := bne_eq_false_iff_eq.2 (by omega)
        have qb : ((((c.names.length : Nat)) : Int) == 0) = false := beq_eq_false_iff_ne.2 (by omega)
        have qa2 : decide (c.names.length ≠ 1) = false := decide_eq_false (fun h => h hln)
        have qb2 : decide (c.names.length = 0) = false := decide_eq_false (by omega)
        rw [qa2, qb2] at hQ
        simp only [Bool.not_true, Bool.not_false, Bool.true_and, Bool.false_and, Bool.and_false, Bool.or_false] at hQ
        clear hln
        go_wp2_with fail
        refine (has_c _ _ c.kind 1 PB _ hkp hpl.out).mono ?_
        rw [hb1.out]
        rintro e v1 ⟨rfl, hb⟩
        have hB1 : Hid (Below w2.heap.size w2 v1) := hb
        replace hpl := Lib.hid (SlP.after hpl.out hb)
        replace hk1 := keep_cell hb hk1
        replace hkp := keep_cell hb hkp
        have hl1 := World.block_lt_of_cell? _ _ hk1
        have hm1 := World.block_lt_of_cell? _ _ hkp
        simp only at hl1 hm1
        clear hb
        go_wp2_with fail
        refine (has_c _ _ c.kind 2 PB _ hkp hpl.out).mono ?_
        rw [hb2.out]
        rintro e v2 ⟨rfl, hb⟩
        have hB2 : Hid (Below w2.heap.size w2 v2) := hB1.out.trans (hb.mono hB1.out.size)
        replace hpl := Lib.hid (SlP.after hpl.out hb)
        replace hk1 := keep_cell hb hk1
        replace hkp := keep_cell hb hkp
        have hl2 := World.block_lt_of_cell? _ _ hk1
        have hm2 := World.block_lt_of_cell? _ _ hkp
        simp only at hl2 hm2
        clear hb
        go_wp2_with fail
        refine (has_c _ _ c.kind 1 PB _ hkp hpl.out).mono ?_
        rw [hb1.out]
        rintro e v3 ⟨rfl, hb⟩
        have hB3 : Hid (Below w2.heap.size w2 v3) := hB2.out.trans (hb.mono hB2.out.size)
        replace hpl := Lib.hid (SlP.after hpl.out hb)
        replace hk1 := keep_cell hb hk1
        replace hkp := keep_cell hb hkp
        have hl3 := World.block_lt_of_cell? _ _ hk1
        have hm3 := World.block_lt_of_cell? _ _ hkp
        simp only at hl3 hm3
        clear hb
        go_wp2_with fail
        exact hQ.out _ _ _ _ _ _ _ _ _ _ _ _ _ _ _ _ _ _ _ _ _ _ _ _ _ _ _ _ _ _ _ _ _ _ _ hB3.out
      · replace hln : c.names.length ≠ 1 := hln
        have qa : ((((c.names.length : Nat)) : Int) != 1) = true := bne_iff_ne.2 (by omega)
        have qa2 : decide (c.names.length ≠ 1) = true := decide_eq_true hln
        rw [qa2] at hQ
        simp only [Bool.not_true, Bool.not_false, Bool.true_and, Bool.false_and, Bool.and_true, Bool.or_false] at hQ
        clear hln
        go_wp2_with fail
        refine (has_c _ _ c.kind 1 PB _ hkp hpl.out).mono ?_
        rw [hb1.out]
        rintro e v1 ⟨rfl, hb⟩
        have hB1 : Hid (Below w2.heap.size w2 v1) := hb
        replace hpl := Lib.hid (SlP.after hpl.out hb)
        replace hk1 := keep_cell hb hk1
        replace hkp := keep_cell hb hkp
        have hl1 := World.block_lt_of_cell? _ _ hk1
        have hm1 := World.block_lt_of_cell? _ _ hkp
        simp only at hl1 hm1
        clear hb
        go_wp2_with fail
        exact hQ.out _ _ _ _ _ _ _ _ _ _ _ _ _ _ _ _ _ _ _ _ _ _ _ _ _ _ _ _ _ _ _ _ _ _ _ hB1.out
  | false =>
    cases b2 with
    | true =>
      rcases Nat.eq_zero_or_pos c.names.length with hln | hln
      · have qb : ((((c.names.length : Nat)) : Int) == 0) = true := beq_iff_eq.2 (by omega)
        have qc : decide ((0 : Int) < ((c.names.length : Nat) : Int)) = false := decide_eq_false (by omega)
        have qb2 : decide (c.names.length = 0) = true := decide_eq_true hln
        have qd : decide (0 < c.names.length) = false := decide_eq_false (by omega)
        rw [qb2, qd] at hQ
        simp only [Bool.not_true, Bool.not_false, Bool.false_and, Bool.and_true, Bool.and_false, Bool.or_true, Bool.or_false] at hQ
        clear hln
        go_wp2_with fail
        refine (has_c _ _ c.kind 1 PB _ hkp hpl.out).mono ?_
        rw [hb1.out]
        rintro e v1 ⟨rfl, hb⟩
        have hB1 : Hid (Below w2.heap.size w2 v1) := hb
        replace hpl := Lib.hid (SlP.after hpl.out hb)
        replace hk1 := keep_cell hb hk1
        replace hkp := keep_cell hb hkp
        have hl1 := World.block_lt_of_cell? _ _ hk1
        have hm1 := World.block_lt_of_cell? _ _ hkp
        simp only at hl1 hm1
        clear hb
        go_wp2_with fail
        refine (has_c _ _ c.kind 2 PB _ hkp hpl.out).mono ?_
        rw [hb2.out]
        rintro e v2 ⟨rfl, hb⟩
        have hB2 : Hid (Below w2.heap.size w2 v2) := hB1.out.trans (hb.mono hB1.out.size)
        replace hpl := Lib.hid (SlP.after hpl.out hb)
        replace hk1 := keep_cell hb hk1
        replace hkp := keep_cell hb hkp
        have hl2 := World.block_lt_of_cell? _ _ hk1
        have hm2 := World.block_lt_of_cell? _ _ hkp
        simp only at hl2 hm2
        clear hb
        go_wp2_with fail
        exact hQ.out _ _ _ _ _ _ _ _ _ _ _ _ _ _ _ _ _ _ _ _ _ _ _ _ _ _ _ _ _ _ _ _ _ _ _ hB2.out
      · have qb : ((((c.names.length : Nat)) : Int) == 0) = false := beq_eq_false_iff_ne.2 (by omega)
        have qc : decide ((0 : Int) < ((c.names.length : Nat) : Int)) = true := decide_eq_true (by omega)
        have qb2 : decide (c.names.length = 0) = false := decide_eq_false (by omega)
        have qd : decide (0 < c.names.length) = true := decide_eq_true (by omega)
        rw [qb2, qd] at hQ
        simp only [Bool.not_true, Bool.not_false, Bool.false_and, Bool.and_true, Bool.and_false, Bool.or_false] at hQ
        clear hln
        go_wp2_with fail
        refine (has_c _ _ c.kind 1 PB _ hkp hpl.out).mono ?_
        rw [hb1.out]
        rintro e v1 ⟨rfl, hb⟩
        have hB1 : Hid (Below w2.heap.size w2 v1) := hb
        replace hpl := Lib.hid (SlP.after hpl.out hb)
        replace hk1 := keep_cell hb hk1
        replace hkp := keep_cell hb hkp
        have hl1 := World.block_lt_of_cell? _ _ hk1
        have hm1 := World.block_lt_of_cell? _ _ hkp
        simp only at hl1 hm1
        clear hb
        go_wp2_with fail
        refine (has_c _ _ c.kind 2 PB _ hkp hpl.out).mono ?_
        rw [hb2.out]
        rintro e v2 ⟨rfl, hb⟩
        have hB2 : Hid (Below w2.heap.size w2 v2) := hB1.out.trans (hb.mono hB1.out.size)
        replace hpl := Lib.hid (SlP.after hpl.out hb)
        replace hk1 := keep_cell hb hk1
        replace hkp := keep_cell hb hkp
        have hl2 := World.block_lt_of_cell? _ _ hk1
        have hm2 := World.block_lt_of_cell? _ _ hkp
        simp only at hl2 hm2
        clear hb
        go_wp2_with fail
        refine (has_c _ _ c.kind 1 PB _ hkp hpl.out).mono ?_
        rw [hb1.out]
        rintro e v3 ⟨rfl, hb⟩
        have hB3 : Hid (Below w2.heap.size w2 v3) := hB2.out.trans (hb.mono hB2.out.size)
        replace hpl := Lib.hid (SlP.after hpl.out hb)
        replace hk1 := keep_cell hb hk1
        replace hkp := keep_cell hb hkp
        have hl3 := World.block_lt_of_cell? _ _ hk1
        have hm3 := World.block_lt_of_cell? _ _ hkp
        simp only at hl3 hm3
        clear hb
        go_wp2_with fail
        refine (has_c _ _ c.kind 2 PB _ hkp hpl.out).mono ?_
        rw [hb2.out]
        rintro e v4 ⟨rfl, hb⟩
        have hB4 : Hid (Below w2.heap.size w2 v4) := hB3.out.trans (hb.mono hB3.out.size)
        replace hpl := Lib.hid (SlP.after hpl.out hb)
        replace hk1 := keep_cell hb hk1
        replace hkp := keep_cell hb hkp
        have hl4 := World.block_lt_of_cell? _ _ hk1
        have hm4 := World.block_lt_of_cell? _ _ hkp
        simp only at hl4 hm4
        clear hb
        go_wp2_with fail
        exact hQ.out _ _ _ _ _ _ _ _ _ _ _ _ _ _ _ _ _ _ _ _ _ _ _ _ _ _ _ _ _ _ _ _ _ _ _ hB4.out
    | false =>
      rcases Nat.eq_zero_or_pos c.names.length with hln | hln
      · have qb : ((((c.names.length : Nat)) : Int) == 0) = true := beq_iff_eq.2 (by omega)
        have qc : decide ((0 : Int) < ((c.names.length : Nat) : Int)) = false := decide_eq_false (by omega)
        have qb2 : decide (c.names.length = 0) = true := decide_eq_true hln
        have qd : decide (0 < c.names.length) = false := decide_eq_false (by omega)
        rw [qb2, qd] at hQ
        simp only [Bool.not_false, Bool.false_and, Bool.and_true, Bool.and_false, Bool.or_false] at hQ
        clear hln
        go_wp2_with fail
        refine (has_c _ _ c.kind 1 PB _ hkp hpl.out).mono ?_
        rw [hb1.out]
        rintro e v1 ⟨rfl, hb⟩
        have hB1 : Hid (Below w2.heap.size w2 v1) := hb
        replace hpl := Lib.hid (SlP.after hpl.out hb)
        replace hk1 := keep_cell hb hk1
        replace hkp := keep_cell hb hkp
        have hl1 := World.block_lt_of_cell? _ _ hk1
        have hm1 := World.block_lt_of_cell? _ _ hkp
        simp only at hl1 hm1
        clear hb
        go_wp2_with fail
        refine (has_c _ _ c.kind 2 PB _ hkp hpl.out).mono ?_
        rw [hb2.out]
        rintro e v2 ⟨rfl, hb⟩
        have hB2 : Hid (Below w2.heap.size w2 v2) := hB1.out.trans (hb.mono hB1.out.size)
        replace hpl := Lib.hid (SlP.after hpl.out hb)
        replace hk1 := keep_cell hb hk1
        replace hkp := keep_cell hb hkp
        have hl2 := World.block_lt_of_cell? _ _ hk1
        have hm2 := World.block_lt_of_cell? _ _ hkp
        simp only at hl2 hm2
        clear hb
        go_wp2_with fail
        refine (has_c _ _ c.kind 1 PB _ hkp hpl.out).mono ?_
        rw [hb1.out]
        rintro e v3 ⟨rfl, hb⟩
        have hB3 : Hid (Below w2.heap.size w2 v3) := hB2.out.trans (hb.mono hB2.out.size)
        replace hpl := Lib.hid (SlP.after hpl.out hb)
        replace hk1 := keep_cell hb hk1
        replace hkp := keep_cell hb hkp
        have hl3 := World.block_lt_of_cell? _ _ hk1
        have hm3 := World.block_lt_of_cell? _ _ hkp
        simp only at hl3 hm3
        clear hb
        go_wp2_with fail
        refine (has_c _ _ c.kind 2 PB _ hkp hpl.out).mono ?_
        rw [hb2.out]
        rintro e v4 ⟨rfl, hb⟩
        have hB4 : Hid (Below w2.heap.size w2 v4) := hB3.out.trans (hb.mono hB3.out.size)
        replace hpl := Lib.hid (SlP.after hpl.out hb)
        replace hk1 := keep_cell hb hk1
        replace hkp := keep_cell hb hkp
        have hl4 := World.block_lt_of_cell? _ _ hk1
        have hm4 := World.block_lt_of_cell? _ _ hkp
        simp only at hl4 hm4
        clear hb
        go_wp2_with fail
        exact hQ.out _ _ _ _ _ _ _ _ _ _ _ _ _ _ _ _ _ _ _ _ _ _ _ _ _ _ _ _ _ _ _ _ _ _ _ hB4.out
      · have qb : ((((c.names.length : Nat)) : Int) == 0) = false := beq_eq_false_iff_ne.2 (by omega)
        have qc : decide ((0 : Int) < ((c.names.length : Nat) : Int)) = true := decide_eq_true (by omega)
        have qb2 : decide (c.names.length = 0) = false := decide_eq_false (by omega)
        have qd : decide (0 < c.names.length) = true := decide_eq_true (by omega)
        rw [qb2, qd] at hQ
        simp only [Bool.not_false, Bool.false_and, Bool.and_true, Bool.and_false, Bool.or_true] at hQ
        clear hln
        go_wp2_with fail
        refine (has_c _ _ c.kind 1 PB _ hkp hpl.out).mono ?_
        rw [hb1.out]
        rintro e v1 ⟨rfl, hb⟩
        have hB1 : Hid (Below w2.heap.size w2 v1) := hb
        replace hpl := Lib.hid (SlP.after hpl.out hb)
        replace hk1 := keep_cell hb hk1
        replace hkp := keep_cell hb hkp
        have hl1 := World.block_lt_of_cell? _ _ hk1
        have hm1 := World.block_lt_of_cell? _ _ hkp
        simp only at hl1 hm1
        clear hb
        go_wp2_with fail
        refine (has_c _ _ c.kind 2 PB _ hkp hpl.out).mono ?_
        rw [hb2.out]
        rintro e v2 ⟨rfl, hb⟩
        have hB2 : Hid (Below w2.heap.size w2 v2) := hB1.out.trans (hb.mono hB1.out.size)
        replace hpl := Lib.hid (SlP.after hpl.out hb)
        replace hk1 := keep_cell hb hk1
        replace hkp := keep_cell hb hkp
        have hl2 := World.block_lt_of_cell? _ _ hk1
        have hm2 := World.block_lt_of_cell? _ _ hkp
        simp only at hl2 hm2
        clear hb
        go_wp2_with fail
        refine (has_c _ _ c.kind 1 PB _ hkp hpl.out).mono ?_
        rw [hb1.out]
        rintro e v3 ⟨rfl, hb⟩
        have hB3 : Hid (Below w2.heap.size w2 v3) := hB2.out.trans (hb.mono hB2.out.size)
        replace hpl := Lib.hid (SlP.after hpl.out hb)
        replace hk1 := keep_cell hb hk1
        replace hkp := keep_cell hb hkp
        have hl3 := World.block_lt_of_cell? _ _ hk1
        have hm3 := World.block_lt_of_cell? _ _ hkp
        simp only at hl3 hm3
        clear hb
        go_wp2_with fail
        refine (has_c _ _ c.kind 2 PB _ hkp hpl.out).mono ?_
        rw [hb2.out]
        rintro e v4 ⟨rfl, hb⟩
        have hB4 : Hid (Below w2.heap.size w2 v4) := hB3.out.trans (hb.mono hB3.out.size)
        replace hpl := Lib.hid (SlP.after hpl.out hb)
        replace hk1 := keep_cell hb hk1
        replace hkp := keep_cell hb hkp
        have hl4 := World.block_lt_of_cell? _ _ hk1
        have hm4 := World.block_lt_of_cell? _ _ hkp
        simp only at hl4 hm4
        clear hb
        go_wp2_with fail
        exact hQ.out _ _ _ _ _ _ _ _ _ _ _ _ _ _ _ _ _ _ _ _ _ _ _ _ _ _ _ _ _ _ _ _ _ _ _ hB4.out
end Go.Proofs.YtganlldidjbpiaaGreatDoor

namespace Go.Proofs.YtganlldidjbpiaaGreatDoor
open Go.RowKit Go.Shelf

/-- Whether a clause is formed, as an item or not; itemsOk: its items are. -/
def formG (c : Cl) (item itemsOk : Bool) : Bool :=
  if (!(decide (1 ≤ c.kind ∧ c.kind ≤ 12)) || (item != decide (6 ≤ c.kind))) = true then false
  else if (!(rightB c.idx (hasF c.kind 3)) || (!(rightB c.a (hasF c.kind 4)) || !(rightB c.b (hasF c.kind 5)))) = true then false
  else if ((hasF c.kind 6 != decide (okDom c.dom)) || (!(hasF c.kind 6) && decide (c.dom ≠ 0))) = true then false
  else if ((hasF c.kind 1 && decide (c.names.length ≠ 1)) || ((hasF c.kind 2 && decide (c.names.length = 0)) || (!(hasF c.kind 1) && (!(hasF c.kind 2) && decide (0 < c.names.length))))) = true then false
  else if (!(hasF c.kind 7) && decide (0 < c.items.length)) = true then false
  else c.names.all (fun n => decide (okName n)) && itemsOk
theorem has7 {k : Nat} (h : hasF k 7 = true) : k = 1 := by
  by_cases e : 1 ≤ k ∧ k ≤ 12
  · match k, e with
    | 1, _ => rfl
    | 2, _ | 3, _ | 4, _ | 5, _ | 6, _ | 7, _ | 8, _ | 9, _ | 10, _ | 11, _ | 12, _ => exact absurd h (by decide)
    | k + 13, e => exact absurd e (by omega)
  · exfalso
    unfold hasF partsOf at h
    rw [if_neg (by omega), if_neg (by omega), if_neg (by omega), if_neg (by omega), if_neg (by omega), if_neg (by omega), if_neg (by omega), if_neg (by omega), if_neg (by omega), if_neg (by omega), if_neg (by omega), if_neg (by omega)] at h
    cases h
theorem item_no {k : Nat} {item : Bool} (h : (item != decide (6 ≤ k)) = false) (hk : k = 1) : item = false := by
  subst hk
  cases item with
  | false => rfl
  | true => cases h
set_option maxRecDepth 100000 in
set_option maxHeartbeats 8000000 in
theorem formed_c (N : Nat) (D : Nat → Prop) (w : World) (c : Cl) (vn vi : Value) (item itemsOk : Bool) (h : HasC D w vn vi c) (hN : N ≤ w.heap.size) (he : Wds N w)
    (hit : c.kind = 1 → item = false → ∀ (W : World), N ≤ W.heap.size → Wds N W → SlC D W vi c.items → Calls Tryz.prog 28 #[vi, .func (.func 61) #[] #[]] W (RetB W itemsOk)) (hnil : c.items = [] → itemsOk = true) :
    Calls Tryz.prog 30 #[.agg (clV c vn vi).toArray, .bool item] w (RetB w (formG c item itemsOk)) := by
  obtain ⟨_, hnc, hic⟩ := hasC_iff.1 h
  obtain ⟨qn, cn, rfl, _, _, _⟩ := hnc.2.shape
  obtain ⟨qi, ci, rfl, _, _, _⟩ := hic.shape
  unfold clV
  have hmf := run_mkf
  obtain ⟨y, hy⟩ : ∃ y, formG c item itemsOk = y := ⟨_, rfl⟩
  rw [hy]
  have HY := Lib.hid hy
  obtain ⟨W0, hW⟩ : ∃ W0, W0 = w.alloc (.cells #[.int .u8 (c.kind : Int), .slice qn c.names.length cn, .int .u8 (c.dom : Int), .int .i64 c.idx, .int .i64 c.a, .int .i64 c.b, .slice qi c.items.length ci, .int .i64 c.off] 43) := ⟨_, rfl⟩
  have hb0 : Below w.heap.size w W0 := hW ▸ held_alloc (Below.refl _ w)
  have bx0 : Box W0 w.heap.size #[.int .u8 (c.kind : Int), .slice qn c.names.length cn, .int .u8 (c.dom : Int), .int .i64 c.idx, .int .i64 c.a, .int .i64 c.b, .slice qi c.items.length ci, .int .i64 c.off] 43 := hW ▸ Box.new w _ _
  obtain ⟨k0, k1, k2, k3, k4, k5, k6, k7⟩ := bx0.cells8
  have BX0 := Lib.hid bx0
  have HB0 := Lib.hid hb0
  have HN0 := Lib.hid (hnc.fx (S := fun _ => False) (Fx.of_below hb0) (fun _ _ _ e => e))
  have HI0 := Lib.hid (hic.after hb0)
  have HE0 := Lib.hid (he.after hb0)
  have HIT0 := Lib.hid hit
  have HNIL := Lib.hid hnil
  clear hy bx0 hb0 hnc hic h he hit hnil k7
  go_enter Tryz.func30, Tryz.ntmps30
  go_upto_region 1 with fail
  rw [← hW]
  clear hW
  go_wp2_with fail
  refine (plan_c W0 c.kind).mono ?_
  obtain ⟨okb, hokb⟩ : ∃ b, decide (1 ≤ c.kind ∧ c.kind ≤ 12) = b := ⟨_, rfl⟩
  unfold RetPl
  rw [hokb]
  have HOKB := Lib.hid hokb
  clear hokb
  rintro e w1 ⟨vp, rfl, hpl, hb1⟩
  obtain ⟨C, hC⟩ : ∃ C, C = w.heap.size := ⟨_, rfl⟩
  obtain ⟨PB, hPB⟩ : ∃ PB, PB = w1.heap.size := ⟨_, rfl⟩
  obtain ⟨qp, cp, hvp, _, _, _⟩ := hpl.shape
  obtain ⟨w2, hw2⟩ : ∃ w2, w2 = w1.alloc (.cells #[vp] 78) := ⟨_, rfl⟩
  have hb2 : Below w1.heap.size w1 w2 := hw2 ▸ held_alloc (Below.refl _ w1)
  have bp : Box w2 w1.heap.size #[vp] 78 := hw2 ▸ Box.new w1 _ _
  have hb12 := hb1.trans (hb2.mono hb1.size)
  have hc8 := ((BX0.out.after hb12)).cells8
  rw [← hC] at hc8
  have kp : w2.cell? ⟨PB, 0, none⟩ = some vp := by rw [hPB]; exact bp.cell 0
  have HB2 := Lib.hid (HB0.out.trans (hb12.mono HB0.out.size))
  have HN := Lib.hid (HN0.out.fx (S := fun _ => False) (Fx.of_below hb12) (fun _ _ _ e => e))
  have HI := Lib.hid (HI0.out.after hb12)
  have HE := Lib.hid (HE0.out.after hb12)
  have HPL := Lib.hid (hpl.after hb2)
  subst hvp
  clear k0 k1 k2 k3 k4 k5 k6 hb1 hb2 hb12 bp hpl HB0 HN0 HI0 HE0 BX0
  have hlC : C < w2.heap.size := World.block_lt_of_cell? _ _ hc8.1
  have hlP : PB < w2.heap.size := World.block_lt_of_cell? _ _ kp
  have hN2 : N ≤ w2.heap.size := Nat.le_trans hN HB2.out.size
  go_upto_region 2 with fail
  rw [← hw2]
  simp only [← hC, ← hPB]
  obtain ⟨hk0, hk1, hk2, hk3, hk4, hk5, hk6, k7⟩ := hc8
  have hkp := kp
  clear hw2 hC hPB k7 kp
  have HN2 := HN
  have HI2 := HI
  have HE2 := HE
  have HPL2 := HPL
  clear HN HI HE HPL
  cases okb with
  | true =>
    have hok := of_decide_eq_true HOKB.out
    by_cases hit : (item != decide (6 ≤ c.kind)) = true
    · have HR : Hid (y = false) := by show _ = _; rw [← HY.out]; unfold formG; simp [hok.1, hok.2, hit]
      have hit' : decide (6 ≤ (c.kind : Int)) = !item := by
        have e : decide (6 ≤ (c.kind : Int)) = decide (6 ≤ c.kind) := by rw [decide_eq_decide]; omega
        rw [e]; revert hit; cases item <;> cases decide (6 ≤ c.kind) <;> simp
      have qx : (item != !item) = true := by cases item <;> rfl
      clear hok hit
      go_wp2_with fail
      go_ret
      rw [HR.out]
      exact ⟨rfl, HB2.out⟩
    · have hit : (item != decide (6 ≤ c.kind)) = false := by simpa using hit
      have HIT := Lib.hid hit
      have HC1 : Hid ((!(decide (1 ≤ c.kind ∧ c.kind ≤ 12)) || (item != decide (6 ≤ c.kind))) = false) := by show _ = _; rw [HOKB.out, hit]; rfl
      have hit' : decide (6 ≤ (c.kind : Int)) = item := by
        have e : decide (6 ≤ (c.kind : Int)) = decide (6 ≤ c.kind) := by rw [decide_eq_decide]; omega
        rw [e]; revert hit; cases item <;> cases decide (6 ≤ c.kind) <;> simp
      have qx : (item != item) = false := by cases item <;> rfl
      clear hok hit
      go_wp2_with fail
      refine formed_r5 (N := N) _ (by kernel_rfl) hk0 hk1 hk2 hk3 hk4 hk5 hkp HPL2.out ?_
      intro w5 _ _ _ _ _ _ _ _ _ _ _ _ _ _ _ _ _ _ _ _ _ _ hb
      have HB5 := Lib.hid (HB2.out.trans (hb.mono HB2.out.size))
      have HN5 := Lib.hid (HN2.out.fx (S := fun _ => False) (Fx.of_below hb) (fun _ _ _ e => e))
      have HI5 := Lib.hid (HI2.out.after hb)
      have HE5 := Lib.hid (HE2.out.after hb)
      have HPL5 := Lib.hid (SlP.after HPL2.out hb)
      replace hk0 := keep_cell hb hk0
      replace hk1 := keep_cell hb hk1
      replace hk2 := keep_cell hb hk2
      replace hk3 := keep_cell hb hk3
      replace hk4 := keep_cell hb hk4
      replace hk5 := keep_cell hb hk5
      replace hk6 := keep_cell hb hk6
      replace hkp := keep_cell hb hkp
      have hs5 : w.heap.size ≤ w5.heap.size := HB5.out.size
      have hlc5 := World.block_lt_of_cell? _ _ hk0
      have hlp5 := World.block_lt_of_cell? _ _ hkp
      simp only at hlc5 hlp5
      clear hb
      obtain ⟨v5, hv5⟩ : ∃ b, (!(rightB c.idx (hasF c.kind 3)) || (!(rightB c.a (hasF c.kind 4)) || !(rightB c.b (hasF c.kind 5)))) = b := ⟨_, rfl⟩
      rw [hv5]
      replace hv5 := Lib.hid hv5
      cases v5 with
      | true =>
        have HR : Hid (y = false) := by
          show _ = _
          rw [← HY.out]
          unfold formG
          rw [if_neg (by rw [HC1.out]; simp), if_pos hv5.out]
        go_wp2_with fail
        go_ret
        rw [HR.out]
        exact ⟨rfl, HB5.out⟩
      | false =>
        have HC5 := hv5
        clear hv5
        go_wp2_with fail
        refine formed_r7 (N := N) _ (by kernel_rfl) hk0 hk1 hk2 hk3 hk4 hk5 hkp HPL5.out HE5.out ?_
        intro w7 _ _ _ _ _ _ _ _ _ _ _ _ _ _ _ _ _ hb
        have HB7 := Lib.hid (HB5.out.trans (hb.mono HB5.out.size))
        have HN7 := Lib.hid (HN5.out.fx (S := fun _ => False) (Fx.of_below hb) (fun _ _ _ e => e))
        have HI7 := Lib.hid (HI5.out.after hb)
        have HE7 := Lib.hid (HE5.out.after hb)
        have HPL7 := Lib.hid (SlP.after HPL5.out hb)
        replace hk0 := keep_cell hb hk0
        replace hk1 := keep_cell hb hk1
        replace hk2 := keep_cell hb hk2
        replace hk3 := keep_cell hb hk3
        replace hk4 := keep_cell hb hk4
        replace hk5 := keep_cell hb hk5
        replace hk6 := keep_cell hb hk6
        replace hkp := keep_cell hb hkp
        have hs7 : w.heap.size ≤ w7.heap.size := HB7.out.size
        have hlc7 := World.block_lt_of_cell? _ _ hk0
        have hlp7 := World.block_lt_of_cell? _ _ hkp
        simp only at hlc7 hlp7
        clear hb
        obtain ⟨v7, hv7⟩ : ∃ b, ((hasF c.kind 6 != decide (okDom c.dom)) || (!(hasF c.kind 6) && decide (c.dom ≠ 0))) = b := ⟨_, rfl⟩
        rw [hv7]
        replace hv7 := Lib.hid hv7
        cases v7 with
        | true =>
          have HR : Hid (y = false) := by
            show _ = _
            rw [← HY.out]
            unfold formG
            rw [if_neg (by rw [HC1.out]; simp), if_neg (by rw [HC5.out]; simp), if_pos hv7.out]
          go_wp2_with fail
          go_ret
          rw [HR.out]
          exact ⟨rfl, HB7.out⟩
        | false =>
          have HC7 := hv7
          clear hv7
          go_upto_region 9 with fail
          refine formed_r9 (N := N) _ (by kernel_rfl) hk0 hk1 hk2 hk3 hk4 hk5 hkp HPL7.out ?_
          intro w9 _ _ _ _ _ _ _ _ _ _ _ _ _ _ _ _ _ _ _ _ _ _ _ _ _ _ _ _ _ _ _ _ _ _ hb
          have HB9 := Lib.hid (HB7.out.trans (hb.mono HB7.out.size))
          have HN9 := Lib.hid (HN7.out.fx (S := fun _ => False) (Fx.of_below hb) (fun _ _ _ e => e))
          have HI9 := Lib.hid (HI7.out.after hb)
          have HE9 := Lib.hid (HE7.out.after hb)
          have HPL9 := Lib.hid (SlP.after HPL7.out hb)
          replace hk0 := keep_cell hb hk0
          replace hk1 := keep_cell hb hk1
          replace hk2 := keep_cell hb hk2
          replace hk3 := keep_cell hb hk3
          replace hk4 := keep_cell hb hk4
          replace hk5 := keep_cell hb hk5
          replace hk6 := keep_cell hb hk6
          replace hkp := keep_cell hb hkp
          have hs9 : w.heap.size ≤ w9.heap.size := HB9.out.size
          have hlc9 := World.block_lt_of_cell? _ _ hk0
          have hlp9 := World.block_lt_of_cell? _ _ hkp
          simp only at hlc9 hlp9
          clear hb
          obtain ⟨v9, hv9⟩ : ∃ b, ((hasF c.kind 1 && decide (c.names.length ≠ 1)) || ((hasF c.kind 2 && decide (c.names.length = 0)) || (!(hasF c.kind 1) && (!(hasF c.kind 2) && decide (0 < c.names.length))))) = b := ⟨_, rfl⟩
          rw [hv9]
          replace hv9 := Lib.hid hv9
          cases v9 with
          | true =>
            have HR : Hid (y = false) := by
              show _ = _
              rw [← HY.out]
              unfold formG
              rw [if_neg (by rw [HC1.out]; simp), if_neg (by rw [HC5.out]; simp), if_neg (by rw [HC7.out]; simp), if_pos hv9.out]
            go_wp2_with fail
            go_ret
            rw [HR.out]
            exact ⟨rfl, HB9.out⟩
          | false =>
            have HC9 := hv9
            clear hv9
            go_wp2_with fail
            refine (has_c _ _ c.kind 7 PB _ hkp HPL9.out).mono ?_
            obtain ⟨b7, hb7⟩ : ∃ b, hasF c.kind 7 = b := ⟨_, rfl⟩
            rw [hb7]
            replace hb7 := Lib.hid hb7
            rintro e w11 ⟨rfl, hb⟩
            have HB11 := Lib.hid (HB9.out.trans (hb.mono HB9.out.size))
            have HN11 := Lib.hid (HN9.out.fx (S := fun _ => False) (Fx.of_below hb) (fun _ _ _ e => e))
            have HI11 := Lib.hid (HI9.out.after hb)
            have HE11 := Lib.hid (HE9.out.after hb)
            have HPL11 := Lib.hid (SlP.after HPL9.out hb)
            replace hk0 := keep_cell hb hk0
            replace hk1 := keep_cell hb hk1
            replace hk2 := keep_cell hb hk2
            replace hk3 := keep_cell hb hk3
            replace hk4 := keep_cell hb hk4
            replace hk5 := keep_cell hb hk5
            replace hk6 := keep_cell hb hk6
            replace hkp := keep_cell hb hkp
            have hs11 : w.heap.size ≤ w11.heap.size := HB11.out.size
            have hlc11 := World.block_lt_of_cell? _ _ hk0
            have hlp11 := World.block_lt_of_cell? _ _ hkp
            simp only at hlc11 hlp11
            clear hb
            cases b7 with
            | true =>
              have HCT : Hid (∀ (W : World), N ≤ W.heap.size → Wds N W → SlC D W (.slice qi c.items.length ci) c.items → Calls Tryz.prog 28 #[.slice qi c.items.length ci, .func (.func 61) #[] #[]] W (RetB W itemsOk)) := HIT0.out (has7 hb7.out) (item_no HIT.out (has7 hb7.out))
              go_wp2_with fail
              refine (everyS_c _ _ _ c.names 60 (fun n => decide (okName n)) HN11.out (enters_of Tryz.func60 (by kernel_rfl) rfl) (fun x hx W hW => proper_c N W x (HN11.out.1 x hx) (Nat.le_trans hN (Nat.le_trans hs11 hW.size)) (HE11.out.after hW))).mono ?_
              obtain ⟨an, han⟩ : ∃ an, (c.names.all fun n => decide (okName n)) = an := ⟨_, rfl⟩
              rw [han]
              have HAN := Lib.hid han
              clear han
              rintro e w13 ⟨rfl, hb⟩
              have HB13 := Lib.hid (HB11.out.trans (hb.mono HB11.out.size))
              have HN13 := Lib.hid (HN11.out.fx (S := fun _ => False) (Fx.of_below hb) (fun _ _ _ e => e))
              have HI13 := Lib.hid (HI11.out.after hb)
              have HE13 := Lib.hid (HE11.out.after hb)
              have HPL13 := Lib.hid (SlP.after HPL11.out hb)
              replace hk0 := keep_cell hb hk0
              replace hk1 := keep_cell hb hk1
              replace hk2 := keep_cell hb hk2
              replace hk3 := keep_cell hb hk3
              replace hk4 := keep_cell hb hk4
              replace hk5 := keep_cell hb hk5
              replace hk6 := keep_cell hb hk6
              replace hkp := keep_cell hb hkp
              have hs13 : w.heap.size ≤ w13.heap.size := HB13.out.size
              have hlc13 := World.block_lt_of_cell? _ _ hk0
              have hlp13 := World.block_lt_of_cell? _ _ hkp
              simp only at hlc13 hlp13
              clear hb
              cases an with
              | false =>
                have HR : Hid (y = false) := by
                  show _ = _
                  rw [← HY.out]
                  unfold formG
                  rw [if_neg (by rw [HC1.out]; simp), if_neg (by rw [HC5.out]; simp), if_neg (by rw [HC7.out]; simp), if_neg (by rw [HC9.out]; simp), if_neg (by rw [hb7.out]; simp), HAN.out, Bool.false_and]
                go_wp2_with fail
                go_ret
                rw [HR.out]
                exact ⟨rfl, HB13.out⟩
              | true =>
                have HR : Hid (y = itemsOk) := by
                  show _ = _
                  rw [← HY.out]
                  unfold formG
                  rw [if_neg (by rw [HC1.out]; simp), if_neg (by rw [HC5.out]; simp), if_neg (by rw [HC7.out]; simp), if_neg (by rw [HC9.out]; simp), if_neg (by rw [hb7.out]; simp), HAN.out, Bool.true_and]
                go_wp2_with fail
                refine (HCT.out w13 (Nat.le_trans hN hs13) HE13.out HI13.out).mono ?_
                rintro e w14 ⟨rfl, hb⟩
                have HBY := Lib.hid (HB13.out.trans (hb.mono HB13.out.size))
                clear hb
                go_wp2_with fail
                go_ret
                rw [HR.out]
                exact ⟨rfl, HBY.out⟩
            | false =>
              rcases Nat.eq_zero_or_pos c.items.length with hli | hli
              · have qi1 : decide ((0 : Int) < ((c.items.length : Nat) : Int)) = false := decide_eq_false (by omega)
                have qi2 : decide (0 < c.items.length) = false := decide_eq_false (by omega)
                have HLI := Lib.hid qi2
                have hcn : c.items = [] := List.length_eq_zero_iff.1 hli
                have HCF : Hid (∀ (W : World), SlC D W (.slice qi c.items.length ci) c.items → Calls Tryz.prog 28 #[.slice qi c.items.length ci, .func (.func 61) #[] #[]] W (RetB W itemsOk)) := fun W hW => by
                  have := everyC_c D W _ c.items 61 (fun _ => true) hW (enters_of Tryz.func61 (by kernel_rfl) rfl) (fun x hx => by rw [hcn] at hx; cases hx)
                  have e2 : c.items.all (fun _ => true) = itemsOk := by rw [HNIL.out hcn, hcn]; rfl
                  rw [e2] at this
                  exact this
                clear hli hcn
                go_wp2_with fail
                refine (everyS_c _ _ _ c.names 60 (fun n => decide (okName n)) HN11.out (enters_of Tryz.func60 (by kernel_rfl) rfl) (fun x hx W hW => proper_c N W x (HN11.out.1 x hx) (Nat.le_trans hN (Nat.le_trans hs11 hW.size)) (HE11.out.after hW))).mono ?_
                obtain ⟨an, han⟩ : ∃ an, (c.names.all fun n => decide (okName n)) = an := ⟨_, rfl⟩
                rw [han]
                have HAN := Lib.hid han
                clear han
                rintro e w13 ⟨rfl, hb⟩
                have HB13 := Lib.hid (HB11.out.trans (hb.mono HB11.out.size))
                have HN13 := Lib.hid (HN11.out.fx (S := fun _ => False) (Fx.of_below hb) (fun _ _ _ e => e))
                have HI13 := Lib.hid (HI11.out.after hb)
                have HE13 := Lib.hid (HE11.out.after hb)
                have HPL13 := Lib.hid (SlP.after HPL11.out hb)
                replace hk0 := keep_cell hb hk0
                replace hk1 := keep_cell hb hk1
                replace hk2 := keep_cell hb hk2
                replace hk3 := keep_cell hb hk3
                replace hk4 := keep_cell hb hk4
                replace hk5 := keep_cell hb hk5
                replace hk6 := keep_cell hb hk6
                replace hkp := keep_cell hb hkp
                have hs13 : w.heap.size ≤ w13.heap.size := HB13.out.size
                have hlc13 := World.block_lt_of_cell? _ _ hk0
                have hlp13 := World.block_lt_of_cell? _ _ hkp
                simp only at hlc13 hlp13
                clear hb
                cases an with
                | false =>
                  have HR : Hid (y = false) := by
                    show _ = _
                    rw [← HY.out]
                    unfold formG
                    rw [if_neg (by rw [HC1.out]; simp), if_neg (by rw [HC5.out]; simp), if_neg (by rw [HC7.out]; simp), if_neg (by rw [HC9.out]; simp), if_neg (by rw [HLI.out]; simp), HAN.out, Bool.false_and]
                  go_wp2_with fail
                  go_ret
                  rw [HR.out]
                  exact ⟨rfl, HB13.out⟩
                | true =>
                  have HR : Hid (y = itemsOk) := by
                    show _ = _
                    rw [← HY.out]
                    unfold formG
                    rw [if_neg (by rw [HC1.out]; simp), if_neg (by rw [HC5.out]; simp), if_neg (by rw [HC7.out]; simp), if_neg (by rw [HC9.out]; simp), if_neg (by rw [HLI.out]; simp), HAN.out, Bool.true_and]
                  go_wp2_with fail
                  refine (HCF.out w13 HI13.out).mono ?_
                  rintro e w14 ⟨rfl, hb⟩
                  have HBY := Lib.hid (HB13.out.trans (hb.mono HB13.out.size))
                  clear hb
                  go_wp2_with fail
                  go_ret
                  rw [HR.out]
                  exact ⟨rfl, HBY.out⟩
              · have qi1 : decide ((0 : Int) < ((c.items.length : Nat) : Int)) = true := decide_eq_true (by omega)
                have qi2 : decide (0 < c.items.length) = true := decide_eq_true hli
                have HLI := Lib.hid qi2
                clear hli
                have HR : Hid (y = false) := by
                  show _ = _
                  rw [← HY.out]
                  unfold formG
                  rw [if_neg (by rw [HC1.out]; simp), if_neg (by rw [HC5.out]; simp), if_neg (by rw [HC7.out]; simp), if_neg (by rw [HC9.out]; simp), if_pos (by rw [hb7.out, HLI.out]; rfl)]
                go_wp2_with fail
                go_ret
                rw [HR.out]
                exact ⟨rfl, HB11.out⟩
  | false =>
    have hok := of_decide_eq_false HOKB.out
    have HR : Hid (y = false) := by show _ = _; rw [← HY.out]; unfold formG; simp [hok]
    clear hok
    go_wp2_with fail
    go_ret
    rw [HR.out]
    exact ⟨rfl, HB2.out⟩
end Go.Proofs.YtganlldidjbpiaaGreatDoor

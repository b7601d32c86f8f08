/- The walk of RatioOrder: Cmp is the sign of the difference, an order that sums keep; Floor lies less than 1 below. -/
import Derived.Test.YtaojdlcailpheaaK29
import Derived.Test.YtaojdlcailpheaaK30
set_option linter.unusedVariables false
namespace Go.Proofs.Ytaojdlcailpheaa
open Go.RowKit

theorem sign_val {x : F} {z : Int} {d : Nat} (h : Rep x z d) : signF x = if z < 0 then -1 else if z = 0 then 0 else 1 := by
  obtain ⟨h1, h2⟩ := h.neg_zero
  unfold signF
  by_cases hz : z < 0
  · rw [if_pos (h2.2 hz), if_pos hz]
  · rw [if_neg (fun e => hz (h2.1 e)), if_neg hz]
    by_cases h0 : z = 0
    · have := h1.2 h0
      rw [if_pos h0]; omega
    · rw [if_neg h0]
      have : ¬ x.num.length ≤ 0 := fun e => h0 (h1.1 e)
      omega
theorem Rep.low {x : F} {z : Int} {d : Nat} (h : Rep x z d) : ∃ s a b, x = fr s a b ∧ Ok s a b ∧ a ≤ z.natAbs ∧ b ≤ d := by
  obtain ⟨hd, s, a, b, rfl, hk, h1⟩ := h
  refine ⟨s, a, b, rfl, hk, ?_, ?_⟩
  · have e : a * d = z.natAbs * b := by
      have := congrArg Int.natAbs h1
      rw [Int.natAbs_mul, Int.natAbs_mul, sg_natAbs, Int.natAbs_natCast, Int.natAbs_natCast] at this
      exact this
    rcases Nat.eq_zero_or_pos z.natAbs with h0 | h0
    · rw [h0, Nat.zero_mul] at e
      rcases Nat.mul_eq_zero.1 e with h | h <;> omega
    · have hc : Nat.Coprime a b := hk.gcd
      exact Nat.le_of_dvd h0 (hc.dvd_of_dvd_mul_right (show a ∣ z.natAbs * b from ⟨d, e.symm⟩))
  · have e : a * d = z.natAbs * b := by
      have := congrArg Int.natAbs h1
      rw [Int.natAbs_mul, Int.natAbs_mul, sg_natAbs, Int.natAbs_natCast, Int.natAbs_natCast] at this
      exact this
    have hc : Nat.Coprime b a := (Nat.coprime_comm.1 hk.gcd)
    exact Nat.le_of_dvd hd (hc.dvd_of_dvd_mul_left (show b ∣ a * d from ⟨z.natAbs, by rw [e, Nat.mul_comm]⟩))
theorem sg_and (s : Bool) (q : Nat) : sg (s && decide (0 < q)) q = sg s q := by
  rcases Nat.eq_zero_or_pos q with h | h
  · subst h; cases s <;> rfl
  · rw [decide_eq_true h, Bool.and_true]
/-- What Floor and what follows return, at a fraction of small numbers. -/
theorem floor_vals {X : F} {x : Int} {x' : Nat} (h : Sm X 16 x x') : ∃ (Lf R : F) (nn sr : Int), floorF X = (Lf, 0) ∧ opF subN X Lf = (R, 0) ∧ cmpF R (fr false 1 1) = (-1, 0) ∧ intF Lf = (nn, 0) ∧ (ofF nn 1 = (Lf, 0) ∧ -9223372036854775808 ≤ nn ∧ nn ≤ 9223372036854775807) ∧ signF R = sr ∧ 0 ≤ sr := by
  obtain ⟨s, a, b, rfl, hk, ha, hb⟩ := h.1.low
  have hb0 := hk.pos
  have p16 : (2 : Nat) ^ 16 = 65536 := rfl
  have ha2 : a < 65536 := by have := h.2.1; omega
  have hb2 : b < 65536 := by have := h.2.2; omega
  have hX : Sm (fr s a b) 16 (sg s a) b := ⟨rep_of_ok hk, by rw [sg_natAbs]; omega, by omega⟩
  obtain ⟨q, hq⟩ : ∃ q, floorN s a b = q := ⟨_, rfl⟩
  have hql := floorN_len hk
  rw [hq] at hql
  have hqv : a / b ≤ q ∧ q ≤ a / b + 1 ∧ (s = false → q = a / b) ∧ (s = true → a ≤ q * b ∧ q * b < a + b) := by
    have hm := Nat.div_add_mod a b
    have hr := Nat.mod_lt a hb0
    have e1 : (a / b + 1) * b = b * (a / b) + b := by rw [Nat.add_mul, Nat.one_mul, Nat.mul_comm]
    have e2 : a / b * b = b * (a / b) := Nat.mul_comm _ _
    unfold floorN at hq
    cases s with
    | true =>
      by_cases h0 : a % b = 0
      · rw [if_neg (by simp [h0])] at hq
        refine ⟨by omega, by omega, fun e => (by cases e), fun _ => ?_⟩
        rw [← hq, Nat.add_zero, e2]; omega
      · rw [if_pos ⟨rfl, h0⟩] at hq
        refine ⟨by omega, by omega, fun e => (by cases e), fun _ => ?_⟩
        rw [← hq, e1]; omega
    | false =>
      rw [if_neg (by simp)] at hq
      exact ⟨by omega, by omega, fun _ => by omega, fun e => (by cases e)⟩
  have hq2 : q ≤ 65536 := by have := Nat.div_le_self a b; omega
  have hokL : Ok (s && decide (0 < q)) q 1 := ⟨hql, by rw [limbs_one]; simp, by omega, Nat.gcd_one_right q, fun e => by rw [e]; simp⟩
  have sL : Sm (fr (s && decide (0 < q)) q 1) 17 (sg s q) 1 := by
    have := rep_of_ok hokL
    rw [sg_and] at this
    exact ⟨this, by rw [sg_natAbs]; have : (2 : Nat) ^ 17 = 131072 := rfl; omega, by have : (2 : Nat) ^ 17 = 131072 := rfl; omega⟩
  obtain ⟨R, hR, sR⟩ := hX.sub sL (by omega)
  have hval : 0 ≤ sg s a * ((1 : Nat) : Int) - sg s q * (b : Int) ∧ sg s a * ((1 : Nat) : Int) - sg s q * (b : Int) < b := by
    have hm := Nat.div_add_mod a b
    have hr := Nat.mod_lt a hb0
    unfold sg
    cases s with
    | true =>
      simp only [if_true]
      obtain ⟨k1, k2⟩ := hqv.2.2.2 rfl
      have e : -(q : Int) * (b : Int) = -((q * b : Nat) : Int) := by push_cast; grind
      rw [e]; omega
    | false =>
      simp only [Bool.false_eq_true, if_false]
      have k := hqv.2.2.1 rfl
      have e : (q : Int) * (b : Int) = ((b * (a / b) : Nat) : Int) := by rw [k]; push_cast; grind
      rw [e]; omega
  refine ⟨_, R, sg s q, _, (floorF_yes hk).trans (by rw [hq]), hR, ?_, ?_, ⟨?_, ?_, ?_⟩, rfl, ?_⟩
  · rw [rep_cmp sR.1 (rep_of_ok (okS (s := false) (n := 1) (d := 1) (by omega) (by omega) (by omega) (by decide) (by omega)))]
    have e : sg false 1 = 1 := rfl
    rw [e, if_pos (by push_cast; omega)]
  · have hs1 : (limbs q).length ≤ 2 := limbs_len_lt (k := 2) (by omega)
    rw [intF_fr hokL, if_neg (by rintro (e | e); exact e rfl; omega)]
    rcases Nat.eq_zero_or_pos q with h0 | h0
    · subst h0
      rw [if_neg (by simp), if_pos (by omega)]
      cases s <;> rfl
    · rw [decide_eq_true h0, Bool.and_true]
      cases s with
      | true => rw [if_pos rfl, if_pos (by omega)]; rfl
      | false => rw [if_neg (by simp), if_pos (by omega)]; rfl
  · have e : ofF (sg s q) 1 = madeZ (sg s q) 1 := by
      unfold ofF madeZ
      rw [if_neg (by omega)]
      have : decide ((1 : Int) < 0) = false := by decide
      rw [this]
      congr 1
      cases decide (sg s q < 0) <;> rfl
    rw [e]; exact sL.1.made
  · have : (sg s q).natAbs = q := sg_natAbs s q
    omega
  · have : (sg s q).natAbs = q := sg_natAbs s q
    omega
  · rw [sign_val sR.1, if_neg (by omega)]
    split <;> omega
/-- A fraction in a new variable, and behind it a literal 1 / 1 in another one. -/
theorem lay_one {w V : World} {cs : Array Value} (hV : V = (((w.alloc (.cells cs 25)).alloc (.cells #[.int .u32 1] 51)).alloc (.cells #[.int .u32 1] 51)).alloc (.cells #[.bool false, .slice (some ⟨w.heap.size + 1, 0, none⟩) 1 1, .slice (some ⟨w.heap.size + 1 + 1, 0, none⟩) 1 1] 25)) :
    Below w.heap.size w V ∧ Box V w.heap.size cs 25 ∧ Box V (w.heap.size + 1 + 1 + 1) #[.bool false, .slice (some ⟨w.heap.size + 1, 0, none⟩) 1 1, .slice (some ⟨w.heap.size + 1 + 1, 0, none⟩) 1 1] 25 ∧ IsF V (.agg #[.bool false, .slice (some ⟨w.heap.size + 1, 0, none⟩) 1 1, .slice (some ⟨w.heap.size + 1 + 1, 0, none⟩) 1 1]) (fr false 1 1) := by
  have r1 : Row32 V (w.heap.size + 1) [1] := by
    have := Row32.lit1 (w.alloc (.cells cs 25)) 1 1 rfl
    rw [World.size_alloc] at this
    rw [hV]; exact (this.alloc _).alloc _
  have r2 : Row32 V (w.heap.size + 1 + 1) [1] := by
    have := Row32.lit1 ((w.alloc (.cells cs 25)).alloc (.cells #[.int .u32 1] 51)) 1 1 rfl
    rw [World.size_alloc, World.size_alloc] at this
    rw [hV]; exact this.alloc _
  have b3 : Box V (w.heap.size + 1 + 1 + 1) #[.bool false, .slice (some ⟨w.heap.size + 1, 0, none⟩) 1 1, .slice (some ⟨w.heap.size + 1 + 1, 0, none⟩) 1 1] 25 := by
    have := Box.new (((w.alloc (.cells cs 25)).alloc (.cells #[.int .u32 1] 51)).alloc (.cells #[.int .u32 1] 51)) #[.bool false, .slice (some ⟨w.heap.size + 1, 0, none⟩) 1 1, .slice (some ⟨w.heap.size + 1 + 1, 0, none⟩) 1 1] 25
    rw [World.size_alloc, World.size_alloc, World.size_alloc] at this
    rw [hV]; exact this
  refine ⟨hV ▸ held_alloc (held_alloc (held_alloc (held_alloc (Below.refl _ w)))), by rw [hV]; exact (((Box.new w cs _).alloc _).alloc _).alloc _, b3, _, _, rfl, ?_, ?_⟩
  · show Sl V _ (limbs 1)
    rw [limbs_one]
    exact Sl.of_row (l := [1]) r1 (Lb.cons (by omega) Lb.nil) (by simp) (by omega)
  · show Sl V _ (limbs 1)
    rw [limbs_one]
    exact Sl.of_row (l := [1]) r2 (Lb.cons (by omega) Lb.nil) (by simp) (by omega)

set_option maxRecDepth 100000 in
set_option maxHeartbeats 16000000 in
theorem order_walk (w : World) (a b c d e f' : Int) (a0 : -32768 ≤ a) (a1 : a ≤ 32767) (b0 : -32768 ≤ b) (b1 : b ≤ 32767) (c0 : -32768 ≤ c) (c1 : c ≤ 32767) (d0 : -32768 ≤ d) (d1 : d ≤ 32767) (e0 : -32768 ≤ e) (e1 : e ≤ 32767) (f0 : -32768 ≤ f') (f1 : f' ≤ 32767) :
    Calls Try.prog 8 #[.agg #[.int .i16 a, .int .i16 b, .int .i16 c, .int .i16 d, .int .i16 e, .int .i16 f']] w fun e w' => e = .returned (.bool true) ∧ Below w.heap.size w w' := by
  obtain ⟨X, hX⟩ : ∃ X, smallF a b = X := ⟨_, rfl⟩
  obtain ⟨Y, hY⟩ : ∃ X, smallF c d = X := ⟨_, rfl⟩
  obtain ⟨Z, hZ⟩ : ∃ X, smallF e f' = X := ⟨_, rfl⟩
  have sx := small_sm a0 a1 b0 b1
  have sy := small_sm c0 c1 d0 d1
  have sz := small_sm e0 e1 f0 f1
  rw [hX] at sx
  rw [hY] at sy
  rw [hZ] at sz
  have HX := Lib.hid hX
  have HY := Lib.hid hY
  have HZ := Lib.hid hZ
  generalize smZ a b = x at sx
  generalize smD b = x' at sx
  generalize smZ c d = y at sy
  generalize smD d = y' at sy
  generalize smZ e f' = z at sz
  generalize smD f' = z' at sz
  obtain ⟨cc, hcc⟩ : ∃ cc : Int, (if x * y' < y * x' then (-1 : Int) else if x * y' = y * x' then 0 else 1) = cc := ⟨_, rfl⟩
  have H1 : Hid (cmpF X Y = (cc, 0)) := by show _ = _; rw [rep_cmp sx.1 sy.1, hcc]
  obtain ⟨D, hD, sD⟩ := sx.sub sy (by omega)
  have H2 := Lib.hid hD
  have H3 : Hid (signF D = cc) := by
    show _ = _
    rw [sign_val sD.1, ← hcc]
    by_cases h1 : x * y' < y * x'
    · rw [if_pos h1, if_pos (by omega)]
    · rw [if_neg h1, if_neg (by omega)]
      by_cases h2 : x * y' = y * x'
      · rw [if_pos h2, if_pos (by omega)]
      · rw [if_neg h2, if_neg (by omega)]
  obtain ⟨P, hP, sP⟩ := sx.add sz (by omega)
  obtain ⟨Q, hQ, sQ⟩ := sy.add sz (by omega)
  have H4 := Lib.hid hP
  have H5 := Lib.hid hQ
  have H6 : Hid (cmpF P Q = (cc, 0)) := by
    show _ = _
    rw [rep_cmp sP.1 sQ.1, ← hcc]
    have hz : (0 : Int) < (z' : Int) * z' := Int.mul_pos (by have := sz.1.1; omega) (by have := sz.1.1; omega)
    have e1 : (x * (z' : Int) + z * (x' : Int)) * ((y' * z' : Nat) : Int) = x * y' * ((z' : Int) * z') + z * x' * y' * z' := by push_cast; grind
    have e2 : (y * (z' : Int) + z * (y' : Int)) * ((x' * z' : Nat) : Int) = y * x' * ((z' : Int) * z') + z * x' * y' * z' := by push_cast; grind
    rw [e1, e2]
    by_cases h1 : x * y' < y * x'
    · have := Int.mul_lt_mul_of_pos_right h1 hz
      rw [if_pos h1, if_pos (by omega)]
    · by_cases h2 : x * y' = y * x'
      · rw [if_neg h1, if_pos h2, h2, if_neg (by omega), if_pos rfl]
      · have := Int.mul_lt_mul_of_pos_right (show y * x' < x * y' by omega) hz
        rw [if_neg h1, if_neg h2, if_neg (by omega), if_neg (by omega)]
  obtain ⟨Lf, R, nn, sr, h7, h8, h9, h10, h11, h12, hsr⟩ := floor_vals sx
  have H7 := Lib.hid h7
  have H8 := Lib.hid h8
  have H9 := Lib.hid h9
  have H10 := Lib.hid h10
  have H11 := Lib.hid h11.1
  have n0 := h11.2.1
  have n1 := h11.2.2
  have H12 := Lib.hid h12
  have hsd : decide (0 ≤ sr) = true := decide_eq_true hsr
  clear hX hY hZ hcc hD sD hP hQ sP sQ h7 h8 h9 h10 h11 h12 sx sy sz
  obtain ⟨W0, hW⟩ : ∃ W0, W0 = w.alloc (.cells #[.int .i16 a, .int .i16 b, .int .i16 c, .int .i16 d, .int .i16 e, .int .i16 f'] 47) := ⟨_, rfl⟩
  have hb0 : Below w.heap.size w W0 := hW ▸ held_alloc (Below.refl _ w)
  have bx : Box W0 w.heap.size #[.int .i16 a, .int .i16 b, .int .i16 c, .int .i16 d, .int .i16 e, .int .i16 f'] 47 := hW ▸ Box.new w _ _
  have k0 : W0.cell? ⟨w.heap.size, 0, none⟩ = some (.int .i16 a) := bx.cell 0
  have k1 : W0.cell? ⟨w.heap.size, 1, none⟩ = some (.int .i16 b) := bx.cell 1
  have k2 : W0.cell? ⟨w.heap.size, 2, none⟩ = some (.int .i16 c) := bx.cell 2
  have k3 : W0.cell? ⟨w.heap.size, 3, none⟩ = some (.int .i16 d) := bx.cell 3
  have k4 : W0.cell? ⟨w.heap.size, 4, none⟩ = some (.int .i16 e) := bx.cell 4
  have k5 : W0.cell? ⟨w.heap.size, 5, none⟩ = some (.int .i16 f') := bx.cell 5
  have HB0 := Lib.hid hb0
  clear hb0 bx
  go_enter Try.func8, Try.ntmps8
  go_upto_region 1 with fail
  rw [← hW]
  clear hW
  refine wp_region_gj (J := GJ _ (fun _ => SV (fun k => match k with | 4 => some (X) | 9 => some (Y) | 14 => some (Z) | _ => none) (fun k => match k with | 0 => some (.pointer (some ⟨w.heap.size, 0, none⟩)) | 1 => some (.int .i16 a) | 2 => some (.pointer (some ⟨w.heap.size, 1, none⟩)) | 3 => some (.int .i16 b) | 5 => some (.pointer (some ⟨w.heap.size, 2, none⟩)) | 6 => some (.int .i16 c) | 7 => some (.pointer (some ⟨w.heap.size, 3, none⟩)) | 8 => some (.int .i16 d) | 10 => some (.pointer (some ⟨w.heap.size, 4, none⟩)) | 11 => some (.int .i16 e) | 12 => some (.pointer (some ⟨w.heap.size, 5, none⟩)) | 13 => some (.int .i16 f') | _ => none)) (CV W0 [⟨15, 18, X, 3⟩, ⟨16, 19, Y, 4⟩, ⟨17, 20, Z, 5⟩]) _) (by kernel_rfl) ?_ ?_ (GJ.start CV.start)
  · intro listed a w9 i hr hj
    obtain ⟨hi12, hun, _, _, _⟩ := ready_mem hr
    have h12 : i ∈ List.range 21 := List.mem_range.2 hi12
    simp only [List.range, List.range.loop, List.mem_cons, List.not_mem_nil, or_false] at h12
    obtain ⟨f, rfl, hcm, hf⟩ := hj.opened [21, 22, 23, 24, 25, 26, 27, 28, 29, 30, 31, 32, 33, 34, 35, 3, 4, 5] (by kernel_rfl)
    have hcm : CV W0 [⟨15, 18, X, 3⟩, ⟨16, 19, Y, 4⟩, ⟨17, 20, Z, 5⟩] listed f w9 := hcm
    rcases h12 with rfl | rfl | rfl | rfl | rfl | rfl | rfl | rfl | rfl | rfl | rfl | rfl | rfl | rfl | rfl | rfl | rfl | rfl | rfl | rfl | rfl
    · refine GJ.op hj (by kernel_rfl) hr rfl [21, 22, 23, 24, 25, 26, 27, 28, 29, 30, 31, 32, 33, 34, 35, 3, 4, 5] (by kernel_rfl) (fun K hK => ?_)
      simp only [Act.put, List.foldl_cons, List.foldl_nil, List.setIfInBounds_toArray, List.set_cons_zero, List.set_cons_succ] at hK ⊢
      clear hj hf
      go_simp
      exact hK _ _ (fun k v _ _ h => h.keep (Below.refl _ _)) (fun t ht => SV.eq rfl rfl) (hcm.keep (Below.refl _ _) (fun e he => by simp only [List.mem_cons, List.not_mem_nil, or_false] at he; rcases he with rfl | rfl | rfl <;> (first | rfl | simp)) (fun e he => by simp only [List.mem_cons, List.not_mem_nil, or_false] at he; rcases he with rfl | rfl | rfl <;> (first | rfl | simp)))
    · have e1 : f 21 = .pointer (some ⟨w.heap.size, 0, none⟩) := (hf 0 _ _ rfl rfl (up_dep hr (by kernel_rfl))).2 _ rfl
      have kc := keep_cell hcm.1 k0
      have klt := World.block_lt_of_cell? _ _ kc
      simp only at klt
      refine GJ.op hj (by kernel_rfl) hr rfl [21, 22, 23, 24, 25, 26, 27, 28, 29, 30, 31, 32, 33, 34, 35, 3, 4, 5] (by kernel_rfl) (fun K hK => ?_)
      simp only [Act.put, List.foldl_cons, List.foldl_nil, List.setIfInBounds_toArray, List.set_cons_zero, List.set_cons_succ] at hK ⊢
      clear hj hf
      rw [e1] at hK ⊢
      clear e1
      go_simp
      exact hK _ _ (fun k v _ _ h => h.keep (Below.refl _ _)) (fun t ht => SV.eq rfl rfl) (hcm.keep (Below.refl _ _) (fun e he => by simp only [List.mem_cons, List.not_mem_nil, or_false] at he; rcases he with rfl | rfl | rfl <;> (first | rfl | simp)) (fun e he => by simp only [List.mem_cons, List.not_mem_nil, or_false] at he; rcases he with rfl | rfl | rfl <;> (first | rfl | simp)))
    · refine GJ.op hj (by kernel_rfl) hr rfl [21, 22, 23, 24, 25, 26, 27, 28, 29, 30, 31, 32, 33, 34, 35, 3, 4, 5] (by kernel_rfl) (fun K hK => ?_)
      simp only [Act.put, List.foldl_cons, List.foldl_nil, List.setIfInBounds_toArray, List.set_cons_zero, List.set_cons_succ] at hK ⊢
      clear hj hf
      go_simp
      exact hK _ _ (fun k v _ _ h => h.keep (Below.refl _ _)) (fun t ht => SV.eq rfl rfl) (hcm.keep (Below.refl _ _) (fun e he => by simp only [List.mem_cons, List.not_mem_nil, or_false] at he; rcases he with rfl | rfl | rfl <;> (first | rfl | simp)) (fun e he => by simp only [List.mem_cons, List.not_mem_nil, or_false] at he; rcases he with rfl | rfl | rfl <;> (first | rfl | simp)))
    · have e1 : f 23 = .pointer (some ⟨w.heap.size, 1, none⟩) := (hf 2 _ _ rfl rfl (up_dep hr (by kernel_rfl))).2 _ rfl
      have kc := keep_cell hcm.1 k1
      have klt := World.block_lt_of_cell? _ _ kc
      simp only at klt
      refine GJ.op hj (by kernel_rfl) hr rfl [21, 22, 23, 24, 25, 26, 27, 28, 29, 30, 31, 32, 33, 34, 35, 3, 4, 5] (by kernel_rfl) (fun K hK => ?_)
      simp only [Act.put, List.foldl_cons, List.foldl_nil, List.setIfInBounds_toArray, List.set_cons_zero, List.set_cons_succ] at hK ⊢
      clear hj hf
      rw [e1] at hK ⊢
      clear e1
      go_simp
      exact hK _ _ (fun k v _ _ h => h.keep (Below.refl _ _)) (fun t ht => SV.eq rfl rfl) (hcm.keep (Below.refl _ _) (fun e he => by simp only [List.mem_cons, List.not_mem_nil, or_false] at he; rcases he with rfl | rfl | rfl <;> (first | rfl | simp)) (fun e he => by simp only [List.mem_cons, List.not_mem_nil, or_false] at he; rcases he with rfl | rfl | rfl <;> (first | rfl | simp)))
    · have e1 : f 22 = .int .i16 a := (hf 1 _ _ rfl rfl (up_dep hr (by kernel_rfl))).2 _ rfl
      have e2 : f 24 = .int .i16 b := (hf 3 _ _ rfl rfl (up_dep hr (by kernel_rfl))).2 _ rfl
      refine GJ.op hj (by kernel_rfl) hr rfl [21, 22, 23, 24, 25, 26, 27, 28, 29, 30, 31, 32, 33, 34, 35, 3, 4, 5] (by kernel_rfl) (fun K hK => ?_)
      simp only [Act.put, List.foldl_cons, List.foldl_nil, List.setIfInBounds_toArray, List.set_cons_zero, List.set_cons_succ] at hK ⊢
      clear hj hf
      rw [e1, e2] at hK ⊢
      clear e1 e2
      go_simp
      refine ((HX.out ▸ small_c w9 a b a0 a1 b0 b1)).mono ?_
      rintro e w10 ⟨v10, rfl, hv10, hb10⟩
      exact hK _ _ (fun k v _ _ h => h.keep hb10) (fun t ht => SV.isF rfl rfl hv10) (hcm.keep hb10 (fun e he => by simp only [List.mem_cons, List.not_mem_nil, or_false] at he; rcases he with rfl | rfl | rfl <;> (first | rfl | simp)) (fun e he => by simp only [List.mem_cons, List.not_mem_nil, or_false] at he; rcases he with rfl | rfl | rfl <;> (first | rfl | simp)))
    · refine GJ.op hj (by kernel_rfl) hr rfl [21, 22, 23, 24, 25, 26, 27, 28, 29, 30, 31, 32, 33, 34, 35, 3, 4, 5] (by kernel_rfl) (fun K hK => ?_)
      simp only [Act.put, List.foldl_cons, List.foldl_nil, List.setIfInBounds_toArray, List.set_cons_zero, List.set_cons_succ] at hK ⊢
      clear hj hf
      go_simp
      exact hK _ _ (fun k v _ _ h => h.keep (Below.refl _ _)) (fun t ht => SV.eq rfl rfl) (hcm.keep (Below.refl _ _) (fun e he => by simp only [List.mem_cons, List.not_mem_nil, or_false] at he; rcases he with rfl | rfl | rfl <;> (first | rfl | simp)) (fun e he => by simp only [List.mem_cons, List.not_mem_nil, or_false] at he; rcases he with rfl | rfl | rfl <;> (first | rfl | simp)))
    · have e1 : f 26 = .pointer (some ⟨w.heap.size, 2, none⟩) := (hf 5 _ _ rfl rfl (up_dep hr (by kernel_rfl))).2 _ rfl
      have kc := keep_cell hcm.1 k2
      have klt := World.block_lt_of_cell? _ _ kc
      simp only at klt
      refine GJ.op hj (by kernel_rfl) hr rfl [21, 22, 23, 24, 25, 26, 27, 28, 29, 30, 31, 32, 33, 34, 35, 3, 4, 5] (by kernel_rfl) (fun K hK => ?_)
      simp only [Act.put, List.foldl_cons, List.foldl_nil, List.setIfInBounds_toArray, List.set_cons_zero, List.set_cons_succ] at hK ⊢
      clear hj hf
      rw [e1] at hK ⊢
      clear e1
      go_simp
      exact hK _ _ (fun k v _ _ h => h.keep (Below.refl _ _)) (fun t ht => SV.eq rfl rfl) (hcm.keep (Below.refl _ _) (fun e he => by simp only [List.mem_cons, List.not_mem_nil, or_false] at he; rcases he with rfl | rfl | rfl <;> (first | rfl | simp)) (fun e he => by simp only [List.mem_cons, List.not_mem_nil, or_false] at he; rcases he with rfl | rfl | rfl <;> (first | rfl | simp)))
    · refine GJ.op hj (by kernel_rfl) hr rfl [21, 22, 23, 24, 25, 26, 27, 28, 29, 30, 31, 32, 33, 34, 35, 3, 4, 5] (by kernel_rfl) (fun K hK => ?_)
      simp only [Act.put, List.foldl_cons, List.foldl_nil, List.setIfInBounds_toArray, List.set_cons_zero, List.set_cons_succ] at hK ⊢
      clear hj hf
      go_simp
      exact hK _ _ (fun k v _ _ h => h.keep (Below.refl _ _)) (fun t ht => SV.eq rfl rfl) (hcm.keep (Below.refl _ _) (fun e he => by simp only [List.mem_cons, List.not_mem_nil, or_false] at he; rcases he with rfl | rfl | rfl <;> (first | rfl | simp)) (fun e he => by simp only [List.mem_cons, List.not_mem_nil, or_false] at he; rcases he with rfl | rfl | rfl <;> (first | rfl | simp)))
    · have e1 : f 28 = .pointer (some ⟨w.heap.size, 3, none⟩) := (hf 7 _ _ rfl rfl (up_dep hr (by kernel_rfl))).2 _ rfl
      have kc := keep_cell hcm.1 k3
      have klt := World.block_lt_of_cell? _ _ kc
      simp only at klt
      refine GJ.op hj (by kernel_rfl) hr rfl [21, 22, 23, 24, 25, 26, 27, 28, 29, 30, 31, 32, 33, 34, 35, 3, 4, 5] (by kernel_rfl) (fun K hK => ?_)
      simp only [Act.put, List.foldl_cons, List.foldl_nil, List.setIfInBounds_toArray, List.set_cons_zero, List.set_cons_succ] at hK ⊢
      clear hj hf
      rw [e1] at hK ⊢
      clear e1
      go_simp
      exact hK _ _ (fun k v _ _ h => h.keep (Below.refl _ _)) (fun t ht => SV.eq rfl rfl) (hcm.keep (Below.refl _ _) (fun e he => by simp only [List.mem_cons, List.not_mem_nil, or_false] at he; rcases he with rfl | rfl | rfl <;> (first | rfl | simp)) (fun e he => by simp only [List.mem_cons, List.not_mem_nil, or_false] at he; rcases he with rfl | rfl | rfl <;> (first | rfl | simp)))
    · have e1 : f 27 = .int .i16 c := (hf 6 _ _ rfl rfl (up_dep hr (by kernel_rfl))).2 _ rfl
      have e2 : f 29 = .int .i16 d := (hf 8 _ _ rfl rfl (up_dep hr (by kernel_rfl))).2 _ rfl
      refine GJ.op hj (by kernel_rfl) hr rfl [21, 22, 23, 24, 25, 26, 27, 28, 29, 30, 31, 32, 33, 34, 35, 3, 4, 5] (by kernel_rfl) (fun K hK => ?_)
      simp only [Act.put, List.foldl_cons, List.foldl_nil, List.setIfInBounds_toArray, List.set_cons_zero, List.set_cons_succ] at hK ⊢
      clear hj hf
      rw [e1, e2] at hK ⊢
      clear e1 e2
      go_simp
      refine ((HY.out ▸ small_c w9 c d c0 c1 d0 d1)).mono ?_
      rintro e w10 ⟨v10, rfl, hv10, hb10⟩
      exact hK _ _ (fun k v _ _ h => h.keep hb10) (fun t ht => SV.isF rfl rfl hv10) (hcm.keep hb10 (fun e he => by simp only [List.mem_cons, List.not_mem_nil, or_false] at he; rcases he with rfl | rfl | rfl <;> (first | rfl | simp)) (fun e he => by simp only [List.mem_cons, List.not_mem_nil, or_false] at he; rcases he with rfl | rfl | rfl <;> (first | rfl | simp)))
    · refine GJ.op hj (by kernel_rfl) hr rfl [21, 22, 23, 24, 25, 26, 27, 28, 29, 30, 31, 32, 33, 34, 35, 3, 4, 5] (by kernel_rfl) (fun K hK => ?_)
      simp only [Act.put, List.foldl_cons, List.foldl_nil, List.setIfInBounds_toArray, List.set_cons_zero, List.set_cons_succ] at hK ⊢
      clear hj hf
      go_simp
      exact hK _ _ (fun k v _ _ h => h.keep (Below.refl _ _)) (fun t ht => SV.eq rfl rfl) (hcm.keep (Below.refl _ _) (fun e he => by simp only [List.mem_cons, List.not_mem_nil, or_false] at he; rcases he with rfl | rfl | rfl <;> (first | rfl | simp)) (fun e he => by simp only [List.mem_cons, List.not_mem_nil, or_false] at he; rcases he with rfl | rfl | rfl <;> (first | rfl | simp)))
    · have e1 : f 31 = .pointer (some ⟨w.heap.size, 4, none⟩) := (hf 10 _ _ rfl rfl (up_dep hr (by kernel_rfl))).2 _ rfl
      have kc := keep_cell hcm.1 k4
      have klt := World.block_lt_of_cell? _ _ kc
      simp only at klt
      refine GJ.op hj (by kernel_rfl) hr rfl [21, 22, 23, 24, 25, 26, 27, 28, 29, 30, 31, 32, 33, 34, 35, 3, 4, 5] (by kernel_rfl) (fun K hK => ?_)
      simp only [Act.put, List.foldl_cons, List.foldl_nil, List.setIfInBounds_toArray, List.set_cons_zero, List.set_cons_succ] at hK ⊢
      clear hj hf
      rw [e1] at hK ⊢
      clear e1
      go_simp
      exact hK _ _ (fun k v _ _ h => h.keep (Below.refl _ _)) (fun t ht => SV.eq rfl rfl) (hcm.keep (Below.refl _ _) (fun e he => by simp only [List.mem_cons, List.not_mem_nil, or_false] at he; rcases he with rfl | rfl | rfl <;> (first | rfl | simp)) (fun e he => by simp only [List.mem_cons, List.not_mem_nil, or_false] at he; rcases he with rfl | rfl | rfl <;> (first | rfl | simp)))
    · refine GJ.op hj (by kernel_rfl) hr rfl [21, 22, 23, 24, 25, 26, 27, 28, 29, 30, 31, 32, 33, 34, 35, 3, 4, 5] (by kernel_rfl) (fun K hK => ?_)
      simp only [Act.put, List.foldl_cons, List.foldl_nil, List.setIfInBounds_toArray, List.set_cons_zero, List.set_cons_succ] at hK ⊢
      clear hj hf
      go_simp
      exact hK _ _ (fun k v _ _ h => h.keep (Below.refl _ _)) (fun t ht => SV.eq rfl rfl) (hcm.keep (Below.refl _ _) (fun e he => by simp only [List.mem_cons, List.not_mem_nil, or_false] at he; rcases he with rfl | rfl | rfl <;> (first | rfl | simp)) (fun e he => by simp only [List.mem_cons, List.not_mem_nil, or_false] at he; rcases he with rfl | rfl | rfl <;> (first | rfl | simp)))
    · have e1 : f 33 = .pointer (some ⟨w.heap.size, 5, none⟩) := (hf 12 _ _ rfl rfl (up_dep hr (by kernel_rfl))).2 _ rfl
      have kc := keep_cell hcm.1 k5
      have klt := World.block_lt_of_cell? _ _ kc
      simp only at klt
      refine GJ.op hj (by kernel_rfl) hr rfl [21, 22, 23, 24, 25, 26, 27, 28, 29, 30, 31, 32, 33, 34, 35, 3, 4, 5] (by kernel_rfl) (fun K hK => ?_)
      simp only [Act.put, List.foldl_cons, List.foldl_nil, List.setIfInBounds_toArray, List.set_cons_zero, List.set_cons_succ] at hK ⊢
      clear hj hf
      rw [e1] at hK ⊢
      clear e1
      go_simp
      exact hK _ _ (fun k v _ _ h => h.keep (Below.refl _ _)) (fun t ht => SV.eq rfl rfl) (hcm.keep (Below.refl _ _) (fun e he => by simp only [List.mem_cons, List.not_mem_nil, or_false] at he; rcases he with rfl | rfl | rfl <;> (first | rfl | simp)) (fun e he => by simp only [List.mem_cons, List.not_mem_nil, or_false] at he; rcases he with rfl | rfl | rfl <;> (first | rfl | simp)))
    · have e1 : f 32 = .int .i16 e := (hf 11 _ _ rfl rfl (up_dep hr (by kernel_rfl))).2 _ rfl
      have e2 : f 34 = .int .i16 f' := (hf 13 _ _ rfl rfl (up_dep hr (by kernel_rfl))).2 _ rfl
      refine GJ.op hj (by kernel_rfl) hr rfl [21, 22, 23, 24, 25, 26, 27, 28, 29, 30, 31, 32, 33, 34, 35, 3, 4, 5] (by kernel_rfl) (fun K hK => ?_)
      simp only [Act.put, List.foldl_cons, List.foldl_nil, List.setIfInBounds_toArray, List.set_cons_zero, List.set_cons_succ] at hK ⊢
      clear hj hf
      rw [e1, e2] at hK ⊢
      clear e1 e2
      go_simp
      refine ((HZ.out ▸ small_c w9 e f' e0 e1 f0 f1)).mono ?_
      rintro e w10 ⟨v10, rfl, hv10, hb10⟩
      exact hK _ _ (fun k v _ _ h => h.keep hb10) (fun t ht => SV.isF rfl rfl hv10) (hcm.keep hb10 (fun e he => by simp only [List.mem_cons, List.not_mem_nil, or_false] at he; rcases he with rfl | rfl | rfl <;> (first | rfl | simp)) (fun e he => by simp only [List.mem_cons, List.not_mem_nil, or_false] at he; rcases he with rfl | rfl | rfl <;> (first | rfl | simp)))
    · have nst : ¬ up listed 18 := fun h => not_up hun (hj.closed 18 15 h (by kernel_rfl))
      refine GJ.op hj (by kernel_rfl) hr rfl [21, 22, 23, 24, 25, 26, 27, 28, 29, 30, 31, 32, 33, 34, 35, 3, 4, 5] (by kernel_rfl) (fun K hK => ?_)
      simp only [Act.put, List.foldl_cons, List.foldl_nil, List.setIfInBounds_toArray, List.set_cons_zero, List.set_cons_succ] at hK ⊢
      clear hj hf
      go_simp
      exact hK _ _ (fun k v _ _ h => h.keep (held_alloc (Below.refl _ _))) (fun t ht => SV.any rfl rfl) (hcm.new ⟨15, 18, X, 3⟩ (by simp) rfl (fun e he => by simp only [List.mem_cons, List.not_mem_nil, or_false] at he; rcases he with rfl | rfl | rfl <;> (first | (intro _; rfl) | simp)) (fun e he => by simp only [List.mem_cons, List.not_mem_nil, or_false] at he; rcases he with rfl | rfl | rfl <;> (first | (intro _; rfl) | simp)) (fun e he => by simp only [List.mem_cons, List.not_mem_nil, or_false] at he; rcases he with rfl | rfl | rfl <;> (first | rfl | simp)) nst rfl (fun e he => by simp only [List.mem_cons, List.not_mem_nil, or_false] at he; rcases he with rfl | rfl | rfl <;> (first | (intro _; rfl) | simp)))
    · have nst : ¬ up listed 19 := fun h => not_up hun (hj.closed 19 16 h (by kernel_rfl))
      refine GJ.op hj (by kernel_rfl) hr rfl [21, 22, 23, 24, 25, 26, 27, 28, 29, 30, 31, 32, 33, 34, 35, 3, 4, 5] (by kernel_rfl) (fun K hK => ?_)
      simp only [Act.put, List.foldl_cons, List.foldl_nil, List.setIfInBounds_toArray, List.set_cons_zero, List.set_cons_succ] at hK ⊢
      clear hj hf
      go_simp
      exact hK _ _ (fun k v _ _ h => h.keep (held_alloc (Below.refl _ _))) (fun t ht => SV.any rfl rfl) (hcm.new ⟨16, 19, Y, 4⟩ (by simp) rfl (fun e he => by simp only [List.mem_cons, List.not_mem_nil, or_false] at he; rcases he with rfl | rfl | rfl <;> (first | (intro _; rfl) | simp)) (fun e he => by simp only [List.mem_cons, List.not_mem_nil, or_false] at he; rcases he with rfl | rfl | rfl <;> (first | (intro _; rfl) | simp)) (fun e he => by simp only [List.mem_cons, List.not_mem_nil, or_false] at he; rcases he with rfl | rfl | rfl <;> (first | rfl | simp)) nst rfl (fun e he => by simp only [List.mem_cons, List.not_mem_nil, or_false] at he; rcases he with rfl | rfl | rfl <;> (first | (intro _; rfl) | simp)))
    · have nst : ¬ up listed 20 := fun h => not_up hun (hj.closed 20 17 h (by kernel_rfl))
      refine GJ.op hj (by kernel_rfl) hr rfl [21, 22, 23, 24, 25, 26, 27, 28, 29, 30, 31, 32, 33, 34, 35, 3, 4, 5] (by kernel_rfl) (fun K hK => ?_)
      simp only [Act.put, List.foldl_cons, List.foldl_nil, List.setIfInBounds_toArray, List.set_cons_zero, List.set_cons_succ] at hK ⊢
      clear hj hf
      go_simp
      exact hK _ _ (fun k v _ _ h => h.keep (held_alloc (Below.refl _ _))) (fun t ht => SV.any rfl rfl) (hcm.new ⟨17, 20, Z, 5⟩ (by simp) rfl (fun e he => by simp only [List.mem_cons, List.not_mem_nil, or_false] at he; rcases he with rfl | rfl | rfl <;> (first | (intro _; rfl) | simp)) (fun e he => by simp only [List.mem_cons, List.not_mem_nil, or_false] at he; rcases he with rfl | rfl | rfl <;> (first | (intro _; rfl) | simp)) (fun e he => by simp only [List.mem_cons, List.not_mem_nil, or_false] at he; rcases he with rfl | rfl | rfl <;> (first | rfl | simp)) nst rfl (fun e he => by simp only [List.mem_cons, List.not_mem_nil, or_false] at he; rcases he with rfl | rfl | rfl <;> (first | (intro _; rfl) | simp)))
    · have hcl := hj.closed
      have hsz := hj.lsize
      have hlt : 18 < listed.size := by rw [hsz]; decide
      have hua : ∀ e ∈ ([⟨15, 18, X, 3⟩, ⟨16, 19, Y, 4⟩, ⟨17, 20, Z, 5⟩] : List VE), up listed e.al := fun e he => by simp only [List.mem_cons, List.not_mem_nil, or_false] at he; rcases he with rfl | rfl | rfl <;> exact up_dep hr (by kernel_rfl)
      have s1 : IsF w9 (f 25) (X) := (hf 4 _ _ rfl rfl (up_dep hr (by kernel_rfl))).1 _ rfl
      obtain ⟨blk, e1, hbw, hbl, hyes, hnot⟩ := hcm.2.1 ⟨15, 18, X, 3⟩ (by simp) (up_dep hr (by kernel_rfl))
      have hz : zeroB w9 blk := hnot (not_up hun)
      obtain ⟨va, vb, e2, h1, h2⟩ := s1
      obtain ⟨pa, ca, rfl, _, _⟩ := h1.shape
      obtain ⟨pb, cb, rfl, _, _⟩ := h2.shape
      refine GJ.op hj (by kernel_rfl) hr rfl [21, 22, 23, 24, 25, 26, 27, 28, 29, 30, 31, 32, 33, 34, 35, 3, 4, 5] (by kernel_rfl) (fun K hK => ?_)
      simp only [Act.put, List.foldl_cons, List.foldl_nil, List.setIfInBounds_toArray, List.set_cons_zero, List.set_cons_succ] at hK ⊢
      clear hj hf
      obtain ⟨z0, z1, z2⟩ := Box.cells3 hz
      have q0 := Box.frozen hz 0
      have q1 := Box.frozen hz 1
      have q2 := Box.frozen hz 2
      obtain ⟨za, hza⟩ : ∃ z, f 3 = z := ⟨_, rfl⟩
      obtain ⟨zb, hzb⟩ : ∃ z, f 25 = z := ⟨_, rfl⟩
      rw [hza, hzb] at hK ⊢
      simp only at e1
      rw [hza] at e1
      rw [hzb] at e2
      subst e1 e2
      clear hzb
      go_simp
      exact hK undef _ (fun k v _ _ h => h.fx (fx_set3 blk _ _ _) (Box.noT hz)) (fun t ht => by cases ht) (hcm.put ⟨15, 18, X, 3⟩ (by simp) rfl (fun e he => by simp only [List.mem_cons, List.not_mem_nil, or_false] at he; rcases he with rfl | rfl | rfl <;> (first | (intro _; rfl) | simp)) (fun e he => by simp only [List.mem_cons, List.not_mem_nil, or_false] at he; rcases he with rfl | rfl | rfl <;> (first | (intro _; rfl) | simp)) hlt hua hza hz ⟨_, _, rfl, h1, h2⟩ (fun e he => by simp only [List.mem_cons, List.not_mem_nil, or_false] at he; rcases he with rfl | rfl | rfl <;> (first | rfl | exact hza.symm)))
    · have hcl := hj.closed
      have hsz := hj.lsize
      have hlt : 19 < listed.size := by rw [hsz]; decide
      have hua : ∀ e ∈ ([⟨15, 18, X, 3⟩, ⟨16, 19, Y, 4⟩, ⟨17, 20, Z, 5⟩] : List VE), up listed e.al := fun e he => by simp only [List.mem_cons, List.not_mem_nil, or_false] at he; rcases he with rfl | rfl | rfl <;> exact up_dep hr (by kernel_rfl)
      have s1 : IsF w9 (f 30) (Y) := (hf 9 _ _ rfl rfl (up_dep hr (by kernel_rfl))).1 _ rfl
      obtain ⟨blk, e1, hbw, hbl, hyes, hnot⟩ := hcm.2.1 ⟨16, 19, Y, 4⟩ (by simp) (up_dep hr (by kernel_rfl))
      have hz : zeroB w9 blk := hnot (not_up hun)
      obtain ⟨va, vb, e2, h1, h2⟩ := s1
      obtain ⟨pa, ca, rfl, _, _⟩ := h1.shape
      obtain ⟨pb, cb, rfl, _, _⟩ := h2.shape
      refine GJ.op hj (by kernel_rfl) hr rfl [21, 22, 23, 24, 25, 26, 27, 28, 29, 30, 31, 32, 33, 34, 35, 3, 4, 5] (by kernel_rfl) (fun K hK => ?_)
      simp only [Act.put, List.foldl_cons, List.foldl_nil, List.setIfInBounds_toArray, List.set_cons_zero, List.set_cons_succ] at hK ⊢
      clear hj hf
      obtain ⟨z0, z1, z2⟩ := Box.cells3 hz
      have q0 := Box.frozen hz 0
      have q1 := Box.frozen hz 1
      have q2 := Box.frozen hz 2
      obtain ⟨za, hza⟩ : ∃ z, f 4 = z := ⟨_, rfl⟩
      obtain ⟨zb, hzb⟩ : ∃ z, f 30 = z := ⟨_, rfl⟩
      rw [hza, hzb] at hK ⊢
      simp only at e1
      rw [hza] at e1
      rw [hzb] at e2
      subst e1 e2
      clear hzb
      go_simp
      exact hK undef _ (fun k v _ _ h => h.fx (fx_set3 blk _ _ _) (Box.noT hz)) (fun t ht => by cases ht) (hcm.put ⟨16, 19, Y, 4⟩ (by simp) rfl (fun e he => by simp only [List.mem_cons, List.not_mem_nil, or_false] at he; rcases he with rfl | rfl | rfl <;> (first | (intro _; rfl) | simp)) (fun e he => by simp only [List.mem_cons, List.not_mem_nil, or_false] at he; rcases he with rfl | rfl | rfl <;> (first | (intro _; rfl) | simp)) hlt hua hza hz ⟨_, _, rfl, h1, h2⟩ (fun e he => by simp only [List.mem_cons, List.not_mem_nil, or_false] at he; rcases he with rfl | rfl | rfl <;> (first | rfl | exact hza.symm)))
    · have hcl := hj.closed
      have hsz := hj.lsize
      have hlt : 20 < listed.size := by rw [hsz]; decide
      have hua : ∀ e ∈ ([⟨15, 18, X, 3⟩, ⟨16, 19, Y, 4⟩, ⟨17, 20, Z, 5⟩] : List VE), up listed e.al := fun e he => by simp only [List.mem_cons, List.not_mem_nil, or_false] at he; rcases he with rfl | rfl | rfl <;> exact up_dep hr (by kernel_rfl)
      have s1 : IsF w9 (f 35) (Z) := (hf 14 _ _ rfl rfl (up_dep hr (by kernel_rfl))).1 _ rfl
      obtain ⟨blk, e1, hbw, hbl, hyes, hnot⟩ := hcm.2.1 ⟨17, 20, Z, 5⟩ (by simp) (up_dep hr (by kernel_rfl))
      have hz : zeroB w9 blk := hnot (not_up hun)
      obtain ⟨va, vb, e2, h1, h2⟩ := s1
      obtain ⟨pa, ca, rfl, _, _⟩ := h1.shape
      obtain ⟨pb, cb, rfl, _, _⟩ := h2.shape
      refine GJ.op hj (by kernel_rfl) hr rfl [21, 22, 23, 24, 25, 26, 27, 28, 29, 30, 31, 32, 33, 34, 35, 3, 4, 5] (by kernel_rfl) (fun K hK => ?_)
      simp only [Act.put, List.foldl_cons, List.foldl_nil, List.setIfInBounds_toArray, List.set_cons_zero, List.set_cons_succ] at hK ⊢
      clear hj hf
      obtain ⟨z0, z1, z2⟩ := Box.cells3 hz
      have q0 := Box.frozen hz 0
      have q1 := Box.frozen hz 1
      have q2 := Box.frozen hz 2
      obtain ⟨za, hza⟩ : ∃ z, f 5 = z := ⟨_, rfl⟩
      obtain ⟨zb, hzb⟩ : ∃ z, f 35 = z := ⟨_, rfl⟩
      rw [hza, hzb] at hK ⊢
      simp only at e1
      rw [hza] at e1
      rw [hzb] at e2
      subst e1 e2
      clear hzb
      go_simp
      exact hK undef _ (fun k v _ _ h => h.fx (fx_set3 blk _ _ _) (Box.noT hz)) (fun t ht => by cases ht) (hcm.put ⟨17, 20, Z, 5⟩ (by simp) rfl (fun e he => by simp only [List.mem_cons, List.not_mem_nil, or_false] at he; rcases he with rfl | rfl | rfl <;> (first | (intro _; rfl) | simp)) (fun e he => by simp only [List.mem_cons, List.not_mem_nil, or_false] at he; rcases he with rfl | rfl | rfl <;> (first | (intro _; rfl) | simp)) hlt hua hza hz ⟨_, _, rfl, h1, h2⟩ (fun e he => by simp only [List.mem_cons, List.not_mem_nil, or_false] at he; rcases he with rfl | rfl | rfl <;> (first | rfl | exact hza.symm)))
  · intro listed a w10 hr hj
    have hu : ∀ k, k < 21 → up listed k := fun k hk => all_up (by kernel_rfl) hj.lsize hr k hk
    obtain ⟨f, rfl, hcm, hf⟩ := hj.opened [21, 22, 23, 24, 25, 26, 27, 28, 29, 30, 31, 32, 33, 34, 35, 3, 4, 5] (by kernel_rfl)
    obtain ⟨B3, e3, g3, v3⟩ := hcm.done ⟨15, 18, X, 3⟩ (by simp) (hu 15 (by omega)) (hu 18 (by omega))
    obtain ⟨B4, e4, g4, v4⟩ := hcm.done ⟨16, 19, Y, 4⟩ (by simp) (hu 16 (by omega)) (hu 19 (by omega))
    obtain ⟨B5, e5, g5, v5⟩ := hcm.done ⟨17, 20, Z, 5⟩ (by simp) (hu 17 (by omega)) (hu 20 (by omega))
    have HB : Hid (Below w.heap.size w w10) := HB0.out.trans (hcm.1.mono HB0.out.size)
    have HV3 := Lib.hid v3
    have HV4 := Lib.hid v4
    have HV5 := Lib.hid v5
    simp only at e3 e4 e5 HV3 HV4 HV5
    clear hcm hf hj hr hu v3 v4 v5 g3 g4 g5 k0 k1 k2 k3 k4 k5
    simp only [List.foldl_cons, List.foldl_nil, List.setIfInBounds_toArray, List.set_cons_zero, List.set_cons_succ]
    rw [e3, e4, e5]
    clear e3 e4 e5
    generalize f 21 = g21
    generalize f 22 = g22
    generalize f 23 = g23
    generalize f 24 = g24
    generalize f 25 = g25
    generalize f 26 = g26
    generalize f 27 = g27
    generalize f 28 = g28
    generalize f 29 = g29
    generalize f 30 = g30
    generalize f 31 = g31
    generalize f 32 = g32
    generalize f 33 = g33
    generalize f 34 = g34
    generalize f 35 = g35
    clear f
    obtain ⟨va, vb, hbx, h1, h2⟩ := HV3.out
    obtain ⟨pX, mX, rfl, _, _⟩ := h1.shape
    obtain ⟨qX, nX, rfl, _, _⟩ := h2.shape
    have CX := Lib.hid hbx
    have FX := Lib.hid (IsF.at_ h1 h2)
    clear hbx h1 h2
    obtain ⟨va, vb, hbx, h1, h2⟩ := HV4.out
    obtain ⟨pY, mY, rfl, _, _⟩ := h1.shape
    obtain ⟨qY, nY, rfl, _, _⟩ := h2.shape
    have CY := Lib.hid hbx
    have FY := Lib.hid (IsF.at_ h1 h2)
    clear hbx h1 h2
    obtain ⟨va, vb, hbx, h1, h2⟩ := HV5.out
    obtain ⟨pZ, mZ, rfl, _, _⟩ := h1.shape
    obtain ⟨qZ, nZ, rfl, _, _⟩ := h2.shape
    have CZ := Lib.hid hbx
    have FZ := Lib.hid (IsF.at_ h1 h2)
    clear hbx h1 h2
    obtain ⟨cX0, cX1, cX2⟩ := CX.out.cells3
    have ltX := CX.out.lt
    obtain ⟨cY0, cY1, cY2⟩ := CY.out.cells3
    have ltY := CY.out.lt
    obtain ⟨cZ0, cZ1, cZ2⟩ := CZ.out.cells3
    have ltZ := CZ.out.lt
    go_wp2_with fail
    refine (Cmp_c _ _ _ _ _ FX.out FY.out).mono ?_
    rw [H1.out]
    rintro e w11 ⟨rfl, hb11⟩
    clear cX0 cX1 cX2 ltX cY0 cY1 cY2 ltY cZ0 cZ1 cZ2 ltZ
    replace CX := Lib.hid (CX.out.after hb11)
    replace CY := Lib.hid (CY.out.after hb11)
    replace CZ := Lib.hid (CZ.out.after hb11)
    replace FX := Lib.hid (FX.out.after hb11)
    replace FY := Lib.hid (FY.out.after hb11)
    replace FZ := Lib.hid (FZ.out.after hb11)
    replace HB := Lib.hid (HB.out.trans (hb11.mono HB.out.size))
    clear hb11
    obtain ⟨cX0, cX1, cX2⟩ := CX.out.cells3
    have ltX := CX.out.lt
    obtain ⟨cY0, cY1, cY2⟩ := CY.out.cells3
    have ltY := CY.out.lt
    obtain ⟨cZ0, cZ1, cZ2⟩ := CZ.out.cells3
    have ltZ := CZ.out.lt
    go_wp2_with fail
    refine (Sub_c _ _ _ _ _ FX.out FY.out).mono ?_
    rw [H2.out]
    rintro e w12 ⟨v, rfl, hv, hb12⟩
    have hv : IsF _ v (D) := hv
    obtain ⟨va, vb, rfl, h1, h2⟩ := hv
    obtain ⟨pD, mD, rfl, _, _⟩ := h1.shape
    obtain ⟨qD, nD, rfl, _, _⟩ := h2.shape
    have FD := Lib.hid (IsF.at_ h1 h2)
    clear h1 h2
    clear cX0 cX1 cX2 ltX cY0 cY1 cY2 ltY cZ0 cZ1 cZ2 ltZ
    replace CX := Lib.hid (CX.out.after hb12)
    replace CY := Lib.hid (CY.out.after hb12)
    replace CZ := Lib.hid (CZ.out.after hb12)
    replace FX := Lib.hid (FX.out.after hb12)
    replace FY := Lib.hid (FY.out.after hb12)
    replace FZ := Lib.hid (FZ.out.after hb12)
    replace HB := Lib.hid (HB.out.trans (hb12.mono HB.out.size))
    clear hb12
    have d_X_D : B3 < w12.heap.size := CX.out.lt
    have d_Y_D : B4 < w12.heap.size := CY.out.lt
    have d_Z_D : B5 < w12.heap.size := CZ.out.lt
    have g_D : w.heap.size ≤ w12.heap.size := by have := HB.out.size; omega
    obtain ⟨cX0, cX1, cX2⟩ := CX.out.cells3
    have ltX := CX.out.lt
    obtain ⟨cY0, cY1, cY2⟩ := CY.out.cells3
    have ltY := CY.out.lt
    obtain ⟨cZ0, cZ1, cZ2⟩ := CZ.out.cells3
    have ltZ := CZ.out.lt
    go_wp2_with fail
    refine (lsign_c _ _ _ (FD.out.alloc _)).mono ?_
    rw [H3.out]
    rintro e w13 ⟨rfl, hb13⟩
    clear cX0 cX1 cX2 ltX cY0 cY1 cY2 ltY cZ0 cZ1 cZ2 ltZ
    obtain ⟨hb13, CD⟩ := after_new hb13
    replace CD := Lib.hid CD
    replace CX := Lib.hid (CX.out.after hb13)
    replace CY := Lib.hid (CY.out.after hb13)
    replace CZ := Lib.hid (CZ.out.after hb13)
    replace FX := Lib.hid (FX.out.after hb13)
    replace FY := Lib.hid (FY.out.after hb13)
    replace FZ := Lib.hid (FZ.out.after hb13)
    replace FD := Lib.hid (FD.out.after hb13)
    replace HB := Lib.hid (HB.out.trans (hb13.mono HB.out.size))
    clear hb13
    obtain ⟨cX0, cX1, cX2⟩ := CX.out.cells3
    have ltX := CX.out.lt
    obtain ⟨cY0, cY1, cY2⟩ := CY.out.cells3
    have ltY := CY.out.lt
    obtain ⟨cZ0, cZ1, cZ2⟩ := CZ.out.cells3
    have ltZ := CZ.out.lt
    obtain ⟨cD0, cD1, cD2⟩ := CD.out.cells3
    have ltD := CD.out.lt
    go_wp2_with fail
    refine (Add_c _ _ _ _ _ FX.out FZ.out).mono ?_
    rw [H4.out]
    rintro e w14 ⟨v, rfl, hv, hb14⟩
    have hv : IsF _ v (P) := hv
    obtain ⟨va, vb, rfl, h1, h2⟩ := hv
    obtain ⟨pP, mP, rfl, _, _⟩ := h1.shape
    obtain ⟨qP, nP, rfl, _, _⟩ := h2.shape
    have FP := Lib.hid (IsF.at_ h1 h2)
    clear h1 h2
    clear cX0 cX1 cX2 ltX cY0 cY1 cY2 ltY cZ0 cZ1 cZ2 ltZ cD0 cD1 cD2 ltD
    replace CX := Lib.hid (CX.out.after hb14)
    replace CY := Lib.hid (CY.out.after hb14)
    replace CZ := Lib.hid (CZ.out.after hb14)
    replace CD := Lib.hid (CD.out.after hb14)
    replace FX := Lib.hid (FX.out.after hb14)
    replace FY := Lib.hid (FY.out.after hb14)
    replace FZ := Lib.hid (FZ.out.after hb14)
    replace FD := Lib.hid (FD.out.after hb14)
    replace HB := Lib.hid (HB.out.trans (hb14.mono HB.out.size))
    clear hb14
    have d_X_P : B3 < w14.heap.size := CX.out.lt
    have d_Y_P : B4 < w14.heap.size := CY.out.lt
    have d_Z_P : B5 < w14.heap.size := CZ.out.lt
    have d_D_P : w12.heap.size < w14.heap.size := CD.out.lt
    have g_P : w.heap.size ≤ w14.heap.size := by have := HB.out.size; omega
    obtain ⟨cX0, cX1, cX2⟩ := CX.out.cells3
    have ltX := CX.out.lt
    obtain ⟨cY0, cY1, cY2⟩ := CY.out.cells3
    have ltY := CY.out.lt
    obtain ⟨cZ0, cZ1, cZ2⟩ := CZ.out.cells3
    have ltZ := CZ.out.lt
    obtain ⟨cD0, cD1, cD2⟩ := CD.out.cells3
    have ltD := CD.out.lt
    go_wp2_with fail
    refine (Add_c _ _ _ _ _ (FY.out.alloc _) (FZ.out.alloc _)).mono ?_
    rw [H5.out]
    rintro e w15 ⟨v, rfl, hv, hb15⟩
    have hv : IsF _ v (Q) := hv
    obtain ⟨va, vb, rfl, h1, h2⟩ := hv
    obtain ⟨pQ, mQ, rfl, _, _⟩ := h1.shape
    obtain ⟨qQ, nQ, rfl, _, _⟩ := h2.shape
    have FQ := Lib.hid (IsF.at_ h1 h2)
    clear h1 h2
    clear cX0 cX1 cX2 ltX cY0 cY1 cY2 ltY cZ0 cZ1 cZ2 ltZ cD0 cD1 cD2 ltD
    obtain ⟨hb15, CP⟩ := after_new hb15
    replace CP := Lib.hid CP
    replace CX := Lib.hid (CX.out.after hb15)
    replace CY := Lib.hid (CY.out.after hb15)
    replace CZ := Lib.hid (CZ.out.after hb15)
    replace CD := Lib.hid (CD.out.after hb15)
    replace FX := Lib.hid (FX.out.after hb15)
    replace FY := Lib.hid (FY.out.after hb15)
    replace FZ := Lib.hid (FZ.out.after hb15)
    replace FD := Lib.hid (FD.out.after hb15)
    replace FP := Lib.hid (FP.out.after hb15)
    replace HB := Lib.hid (HB.out.trans (hb15.mono HB.out.size))
    clear hb15
    have d_X_Q : B3 < w15.heap.size := CX.out.lt
    have d_Y_Q : B4 < w15.heap.size := CY.out.lt
    have d_Z_Q : B5 < w15.heap.size := CZ.out.lt
    have d_D_Q : w12.heap.size < w15.heap.size := CD.out.lt
    have d_P_Q : w14.heap.size < w15.heap.size := CP.out.lt
    have g_Q : w.heap.size ≤ w15.heap.size := by have := HB.out.size; omega
    obtain ⟨cX0, cX1, cX2⟩ := CX.out.cells3
    have ltX := CX.out.lt
    obtain ⟨cY0, cY1, cY2⟩ := CY.out.cells3
    have ltY := CY.out.lt
    obtain ⟨cZ0, cZ1, cZ2⟩ := CZ.out.cells3
    have ltZ := CZ.out.lt
    obtain ⟨cD0, cD1, cD2⟩ := CD.out.cells3
    have ltD := CD.out.lt
    obtain ⟨cP0, cP1, cP2⟩ := CP.out.cells3
    have ltP := CP.out.lt
    go_wp2_with fail
    refine (Cmp_c _ _ _ _ _ (FP.out.alloc _) (FQ.out.alloc _)).mono ?_
    rw [H6.out]
    rintro e w16 ⟨rfl, hb16⟩
    clear cX0 cX1 cX2 ltX cY0 cY1 cY2 ltY cZ0 cZ1 cZ2 ltZ cD0 cD1 cD2 ltD cP0 cP1 cP2 ltP
    obtain ⟨hb16, CQ⟩ := after_new hb16
    replace CQ := Lib.hid CQ
    replace CX := Lib.hid (CX.out.after hb16)
    replace CY := Lib.hid (CY.out.after hb16)
    replace CZ := Lib.hid (CZ.out.after hb16)
    replace CD := Lib.hid (CD.out.after hb16)
    replace CP := Lib.hid (CP.out.after hb16)
    replace FX := Lib.hid (FX.out.after hb16)
    replace FY := Lib.hid (FY.out.after hb16)
    replace FZ := Lib.hid (FZ.out.after hb16)
    replace FD := Lib.hid (FD.out.after hb16)
    replace FP := Lib.hid (FP.out.after hb16)
    replace FQ := Lib.hid (FQ.out.after hb16)
    replace HB := Lib.hid (HB.out.trans (hb16.mono HB.out.size))
    clear hb16
    obtain ⟨cX0, cX1, cX2⟩ := CX.out.cells3
    have ltX := CX.out.lt
    obtain ⟨cY0, cY1, cY2⟩ := CY.out.cells3
    have ltY := CY.out.lt
    obtain ⟨cZ0, cZ1, cZ2⟩ := CZ.out.cells3
    have ltZ := CZ.out.lt
    obtain ⟨cD0, cD1, cD2⟩ := CD.out.cells3
    have ltD := CD.out.lt
    obtain ⟨cP0, cP1, cP2⟩ := CP.out.cells3
    have ltP := CP.out.lt
    obtain ⟨cQ0, cQ1, cQ2⟩ := CQ.out.cells3
    have ltQ := CQ.out.lt
    go_wp2_with fail
    refine (Floor_c _ _ _ FX.out).mono ?_
    rw [H7.out]
    rintro e w17 ⟨v, rfl, hv, hb17⟩
    have hv : IsF _ v (Lf) := hv
    obtain ⟨va, vb, rfl, h1, h2⟩ := hv
    obtain ⟨pL, mL, rfl, _, _⟩ := h1.shape
    obtain ⟨qL, nL, rfl, _, _⟩ := h2.shape
    have FL := Lib.hid (IsF.at_ h1 h2)
    clear h1 h2
    clear cX0 cX1 cX2 ltX cY0 cY1 cY2 ltY cZ0 cZ1 cZ2 ltZ cD0 cD1 cD2 ltD cP0 cP1 cP2 ltP cQ0 cQ1 cQ2 ltQ
    replace CX := Lib.hid (CX.out.after hb17)
    replace CY := Lib.hid (CY.out.after hb17)
    replace CZ := Lib.hid (CZ.out.after hb17)
    replace CD := Lib.hid (CD.out.after hb17)
    replace CP := Lib.hid (CP.out.after hb17)
    replace CQ := Lib.hid (CQ.out.after hb17)
    replace FX := Lib.hid (FX.out.after hb17)
    replace FY := Lib.hid (FY.out.after hb17)
    replace FZ := Lib.hid (FZ.out.after hb17)
    replace FD := Lib.hid (FD.out.after hb17)
    replace FP := Lib.hid (FP.out.after hb17)
    replace FQ := Lib.hid (FQ.out.after hb17)
    replace HB := Lib.hid (HB.out.trans (hb17.mono HB.out.size))
    clear hb17
    have d_X_L : B3 < w17.heap.size := CX.out.lt
    have d_Y_L : B4 < w17.heap.size := CY.out.lt
    have d_Z_L : B5 < w17.heap.size := CZ.out.lt
    have d_D_L : w12.heap.size < w17.heap.size := CD.out.lt
    have d_P_L : w14.heap.size < w17.heap.size := CP.out.lt
    have d_Q_L : w15.heap.size < w17.heap.size := CQ.out.lt
    have g_L : w.heap.size ≤ w17.heap.size := by have := HB.out.size; omega
    obtain ⟨cX0, cX1, cX2⟩ := CX.out.cells3
    have ltX := CX.out.lt
    obtain ⟨cY0, cY1, cY2⟩ := CY.out.cells3
    have ltY := CY.out.lt
    obtain ⟨cZ0, cZ1, cZ2⟩ := CZ.out.cells3
    have ltZ := CZ.out.lt
    obtain ⟨cD0, cD1, cD2⟩ := CD.out.cells3
    have ltD := CD.out.lt
    obtain ⟨cP0, cP1, cP2⟩ := CP.out.cells3
    have ltP := CP.out.lt
    obtain ⟨cQ0, cQ1, cQ2⟩ := CQ.out.cells3
    have ltQ := CQ.out.lt
    go_wp2_with fail
    refine (Sub_c _ _ _ _ _ (FX.out.alloc _) (FL.out.alloc _)).mono ?_
    rw [H8.out]
    rintro e w18 ⟨v, rfl, hv, hb18⟩
    have hv : IsF _ v (R) := hv
    obtain ⟨va, vb, rfl, h1, h2⟩ := hv
    obtain ⟨pR, mR, rfl, _, _⟩ := h1.shape
    obtain ⟨qR, nR, rfl, _, _⟩ := h2.shape
    have FR := Lib.hid (IsF.at_ h1 h2)
    clear h1 h2
    clear cX0 cX1 cX2 ltX cY0 cY1 cY2 ltY cZ0 cZ1 cZ2 ltZ cD0 cD1 cD2 ltD cP0 cP1 cP2 ltP cQ0 cQ1 cQ2 ltQ
    obtain ⟨hb18, CL⟩ := after_new hb18
    replace CL := Lib.hid CL
    replace CX := Lib.hid (CX.out.after hb18)
    replace CY := Lib.hid (CY.out.after hb18)
    replace CZ := Lib.hid (CZ.out.after hb18)
    replace CD := Lib.hid (CD.out.after hb18)
    replace CP := Lib.hid (CP.out.after hb18)
    replace CQ := Lib.hid (CQ.out.after hb18)
    replace FX := Lib.hid (FX.out.after hb18)
    replace FY := Lib.hid (FY.out.after hb18)
    replace FZ := Lib.hid (FZ.out.after hb18)
    replace FD := Lib.hid (FD.out.after hb18)
    replace FP := Lib.hid (FP.out.after hb18)
    replace FQ := Lib.hid (FQ.out.after hb18)
    replace FL := Lib.hid (FL.out.after hb18)
    replace HB := Lib.hid (HB.out.trans (hb18.mono HB.out.size))
    clear hb18
    have d_X_R : B3 < w18.heap.size := CX.out.lt
    have d_Y_R : B4 < w18.heap.size := CY.out.lt
    have d_Z_R : B5 < w18.heap.size := CZ.out.lt
    have d_D_R : w12.heap.size < w18.heap.size := CD.out.lt
    have d_P_R : w14.heap.size < w18.heap.size := CP.out.lt
    have d_Q_R : w15.heap.size < w18.heap.size := CQ.out.lt
    have d_L_R : w17.heap.size < w18.heap.size := CL.out.lt
    have g_R : w.heap.size ≤ w18.heap.size := by have := HB.out.size; omega
    obtain ⟨cX0, cX1, cX2⟩ := CX.out.cells3
    have ltX := CX.out.lt
    obtain ⟨cY0, cY1, cY2⟩ := CY.out.cells3
    have ltY := CY.out.lt
    obtain ⟨cZ0, cZ1, cZ2⟩ := CZ.out.cells3
    have ltZ := CZ.out.lt
    obtain ⟨cD0, cD1, cD2⟩ := CD.out.cells3
    have ltD := CD.out.lt
    obtain ⟨cP0, cP1, cP2⟩ := CP.out.cells3
    have ltP := CP.out.lt
    obtain ⟨cQ0, cQ1, cQ2⟩ := CQ.out.cells3
    have ltQ := CQ.out.lt
    obtain ⟨cL0, cL1, cL2⟩ := CL.out.cells3
    have ltL := CL.out.lt
    go_upto_region 14 with fail
    obtain ⟨V, hV⟩ : ∃ V, V = ((((w18.alloc (.cells #[.bool (R).neg, .slice pR (R).num.length mR, .slice qR (R).den.length nR] 25)).alloc (.cells #[.int .u32 1] 51)).alloc (.cells #[.int .u32 1] 51)).alloc (.cells #[.bool false, .slice (some ⟨w18.heap.size + 1, 0, none⟩) 1 1, .slice (some ⟨w18.heap.size + 1 + 1, 0, none⟩) 1 1] 25)) := ⟨_, rfl⟩
    obtain ⟨hbV, bR, bU, hU⟩ := lay_one hV
    rw [← hV]
    clear hV
    clear cX0 cX1 cX2 ltX cY0 cY1 cY2 ltY cZ0 cZ1 cZ2 ltZ cD0 cD1 cD2 ltD cP0 cP1 cP2 ltP cQ0 cQ1 cQ2 ltQ cL0 cL1 cL2 ltL
    have CR := Lib.hid bR
    have CU := Lib.hid bU
    have FU := Lib.hid hU
    clear bR bU hU
    replace CX := Lib.hid (CX.out.after hbV)
    replace CY := Lib.hid (CY.out.after hbV)
    replace CZ := Lib.hid (CZ.out.after hbV)
    replace CD := Lib.hid (CD.out.after hbV)
    replace CP := Lib.hid (CP.out.after hbV)
    replace CQ := Lib.hid (CQ.out.after hbV)
    replace CL := Lib.hid (CL.out.after hbV)
    replace FX := Lib.hid (FX.out.after hbV)
    replace FY := Lib.hid (FY.out.after hbV)
    replace FZ := Lib.hid (FZ.out.after hbV)
    replace FD := Lib.hid (FD.out.after hbV)
    replace FP := Lib.hid (FP.out.after hbV)
    replace FQ := Lib.hid (FQ.out.after hbV)
    replace FL := Lib.hid (FL.out.after hbV)
    replace FR := Lib.hid (FR.out.after hbV)
    replace HB := Lib.hid (HB.out.trans (hbV.mono HB.out.size))
    clear hbV
    obtain ⟨cX0, cX1, cX2⟩ := CX.out.cells3
    have ltX := CX.out.lt
    obtain ⟨cY0, cY1, cY2⟩ := CY.out.cells3
    have ltY := CY.out.lt
    obtain ⟨cZ0, cZ1, cZ2⟩ := CZ.out.cells3
    have ltZ := CZ.out.lt
    obtain ⟨cD0, cD1, cD2⟩ := CD.out.cells3
    have ltD := CD.out.lt
    obtain ⟨cP0, cP1, cP2⟩ := CP.out.cells3
    have ltP := CP.out.lt
    obtain ⟨cQ0, cQ1, cQ2⟩ := CQ.out.cells3
    have ltQ := CQ.out.lt
    obtain ⟨cL0, cL1, cL2⟩ := CL.out.cells3
    have ltL := CL.out.lt
    obtain ⟨cR0, cR1, cR2⟩ := CR.out.cells3
    have ltR := CR.out.lt
    obtain ⟨cU0, cU1, cU2⟩ := CU.out.cells3
    have ltU := CU.out.lt
    go_wp2_with fail
    refine (Cmp_c _ _ _ R (fr false 1 1) FR.out FU.out).mono ?_
    rw [H9.out]
    rintro e w19 ⟨rfl, hb19⟩
    clear cX0 cX1 cX2 ltX cY0 cY1 cY2 ltY cZ0 cZ1 cZ2 ltZ cD0 cD1 cD2 ltD cP0 cP1 cP2 ltP cQ0 cQ1 cQ2 ltQ cL0 cL1 cL2 ltL cR0 cR1 cR2 ltR cU0 cU1 cU2 ltU
    replace CX := Lib.hid (CX.out.after hb19)
    replace CY := Lib.hid (CY.out.after hb19)
    replace CZ := Lib.hid (CZ.out.after hb19)
    replace CD := Lib.hid (CD.out.after hb19)
    replace CP := Lib.hid (CP.out.after hb19)
    replace CQ := Lib.hid (CQ.out.after hb19)
    replace CL := Lib.hid (CL.out.after hb19)
    replace CR := Lib.hid (CR.out.after hb19)
    replace CU := Lib.hid (CU.out.after hb19)
    replace FX := Lib.hid (FX.out.after hb19)
    replace FY := Lib.hid (FY.out.after hb19)
    replace FZ := Lib.hid (FZ.out.after hb19)
    replace FD := Lib.hid (FD.out.after hb19)
    replace FP := Lib.hid (FP.out.after hb19)
    replace FQ := Lib.hid (FQ.out.after hb19)
    replace FL := Lib.hid (FL.out.after hb19)
    replace FR := Lib.hid (FR.out.after hb19)
    replace FU := Lib.hid (FU.out.after hb19)
    replace HB := Lib.hid (HB.out.trans (hb19.mono HB.out.size))
    clear hb19
    obtain ⟨cX0, cX1, cX2⟩ := CX.out.cells3
    have ltX := CX.out.lt
    obtain ⟨cY0, cY1, cY2⟩ := CY.out.cells3
    have ltY := CY.out.lt
    obtain ⟨cZ0, cZ1, cZ2⟩ := CZ.out.cells3
    have ltZ := CZ.out.lt
    obtain ⟨cD0, cD1, cD2⟩ := CD.out.cells3
    have ltD := CD.out.lt
    obtain ⟨cP0, cP1, cP2⟩ := CP.out.cells3
    have ltP := CP.out.lt
    obtain ⟨cQ0, cQ1, cQ2⟩ := CQ.out.cells3
    have ltQ := CQ.out.lt
    obtain ⟨cL0, cL1, cL2⟩ := CL.out.cells3
    have ltL := CL.out.lt
    obtain ⟨cR0, cR1, cR2⟩ := CR.out.cells3
    have ltR := CR.out.lt
    obtain ⟨cU0, cU1, cU2⟩ := CU.out.cells3
    have ltU := CU.out.lt
    go_wp2_with fail
    refine (Int_c _ _ _ FL.out).mono ?_
    rw [H10.out]
    rintro e w20 ⟨rfl, hb20⟩
    clear cX0 cX1 cX2 ltX cY0 cY1 cY2 ltY cZ0 cZ1 cZ2 ltZ cD0 cD1 cD2 ltD cP0 cP1 cP2 ltP cQ0 cQ1 cQ2 ltQ cL0 cL1 cL2 ltL cR0 cR1 cR2 ltR cU0 cU1 cU2 ltU
    replace CX := Lib.hid (CX.out.after hb20)
    replace CY := Lib.hid (CY.out.after hb20)
    replace CZ := Lib.hid (CZ.out.after hb20)
    replace CD := Lib.hid (CD.out.after hb20)
    replace CP := Lib.hid (CP.out.after hb20)
    replace CQ := Lib.hid (CQ.out.after hb20)
    replace CL := Lib.hid (CL.out.after hb20)
    replace CR := Lib.hid (CR.out.after hb20)
    replace CU := Lib.hid (CU.out.after hb20)
    replace FX := Lib.hid (FX.out.after hb20)
    replace FY := Lib.hid (FY.out.after hb20)
    replace FZ := Lib.hid (FZ.out.after hb20)
    replace FD := Lib.hid (FD.out.after hb20)
    replace FP := Lib.hid (FP.out.after hb20)
    replace FQ := Lib.hid (FQ.out.after hb20)
    replace FL := Lib.hid (FL.out.after hb20)
    replace FR := Lib.hid (FR.out.after hb20)
    replace FU := Lib.hid (FU.out.after hb20)
    replace HB := Lib.hid (HB.out.trans (hb20.mono HB.out.size))
    clear hb20
    obtain ⟨cX0, cX1, cX2⟩ := CX.out.cells3
    have ltX := CX.out.lt
    obtain ⟨cY0, cY1, cY2⟩ := CY.out.cells3
    have ltY := CY.out.lt
    obtain ⟨cZ0, cZ1, cZ2⟩ := CZ.out.cells3
    have ltZ := CZ.out.lt
    obtain ⟨cD0, cD1, cD2⟩ := CD.out.cells3
    have ltD := CD.out.lt
    obtain ⟨cP0, cP1, cP2⟩ := CP.out.cells3
    have ltP := CP.out.lt
    obtain ⟨cQ0, cQ1, cQ2⟩ := CQ.out.cells3
    have ltQ := CQ.out.lt
    obtain ⟨cL0, cL1, cL2⟩ := CL.out.cells3
    have ltL := CL.out.lt
    obtain ⟨cR0, cR1, cR2⟩ := CR.out.cells3
    have ltR := CR.out.lt
    obtain ⟨cU0, cU1, cU2⟩ := CU.out.cells3
    have ltU := CU.out.lt
    go_wp2_with fail
    refine (Of_c _ nn 1 n0 n1 (by omega) (by omega)).mono ?_
    rw [H11.out]
    rintro e w21 ⟨v, rfl, hv, hb21⟩
    have hv : IsF _ v (Lf) := hv
    obtain ⟨va, vb, rfl, h1, h2⟩ := hv
    obtain ⟨pK, mK, rfl, _, _⟩ := h1.shape
    obtain ⟨qK, nK, rfl, _, _⟩ := h2.shape
    have FK := Lib.hid (IsF.at_ h1 h2)
    clear h1 h2
    clear cX0 cX1 cX2 ltX cY0 cY1 cY2 ltY cZ0 cZ1 cZ2 ltZ cD0 cD1 cD2 ltD cP0 cP1 cP2 ltP cQ0 cQ1 cQ2 ltQ cL0 cL1 cL2 ltL cR0 cR1 cR2 ltR cU0 cU1 cU2 ltU
    replace CX := Lib.hid (CX.out.after hb21)
    replace CY := Lib.hid (CY.out.after hb21)
    replace CZ := Lib.hid (CZ.out.after hb21)
    replace CD := Lib.hid (CD.out.after hb21)
    replace CP := Lib.hid (CP.out.after hb21)
    replace CQ := Lib.hid (CQ.out.after hb21)
    replace CL := Lib.hid (CL.out.after hb21)
    replace CR := Lib.hid (CR.out.after hb21)
    replace CU := Lib.hid (CU.out.after hb21)
    replace FX := Lib.hid (FX.out.after hb21)
    replace FY := Lib.hid (FY.out.after hb21)
    replace FZ := Lib.hid (FZ.out.after hb21)
    replace FD := Lib.hid (FD.out.after hb21)
    replace FP := Lib.hid (FP.out.after hb21)
    replace FQ := Lib.hid (FQ.out.after hb21)
    replace FL := Lib.hid (FL.out.after hb21)
    replace FR := Lib.hid (FR.out.after hb21)
    replace FU := Lib.hid (FU.out.after hb21)
    replace HB := Lib.hid (HB.out.trans (hb21.mono HB.out.size))
    clear hb21
    have d_X_K : B3 < w21.heap.size := CX.out.lt
    have d_Y_K : B4 < w21.heap.size := CY.out.lt
    have d_Z_K : B5 < w21.heap.size := CZ.out.lt
    have d_D_K : w12.heap.size < w21.heap.size := CD.out.lt
    have d_P_K : w14.heap.size < w21.heap.size := CP.out.lt
    have d_Q_K : w15.heap.size < w21.heap.size := CQ.out.lt
    have d_L_K : w17.heap.size < w21.heap.size := CL.out.lt
    have d_R_K : w18.heap.size < w21.heap.size := CR.out.lt
    have d_U_K : w18.heap.size + 1 + 1 + 1 < w21.heap.size := CU.out.lt
    have g_K : w.heap.size ≤ w21.heap.size := by have := HB.out.size; omega
    obtain ⟨cX0, cX1, cX2⟩ := CX.out.cells3
    have ltX := CX.out.lt
    obtain ⟨cY0, cY1, cY2⟩ := CY.out.cells3
    have ltY := CY.out.lt
    obtain ⟨cZ0, cZ1, cZ2⟩ := CZ.out.cells3
    have ltZ := CZ.out.lt
    obtain ⟨cD0, cD1, cD2⟩ := CD.out.cells3
    have ltD := CD.out.lt
    obtain ⟨cP0, cP1, cP2⟩ := CP.out.cells3
    have ltP := CP.out.lt
    obtain ⟨cQ0, cQ1, cQ2⟩ := CQ.out.cells3
    have ltQ := CQ.out.lt
    obtain ⟨cL0, cL1, cL2⟩ := CL.out.cells3
    have ltL := CL.out.lt
    obtain ⟨cR0, cR1, cR2⟩ := CR.out.cells3
    have ltR := CR.out.lt
    obtain ⟨cU0, cU1, cU2⟩ := CU.out.cells3
    have ltU := CU.out.lt
    go_wp2_with fail
    refine (lsign_c _ _ _ (FR.out.alloc _)).mono ?_
    rw [H12.out]
    rintro e w22 ⟨rfl, hb22⟩
    clear cX0 cX1 cX2 ltX cY0 cY1 cY2 ltY cZ0 cZ1 cZ2 ltZ cD0 cD1 cD2 ltD cP0 cP1 cP2 ltP cQ0 cQ1 cQ2 ltQ cL0 cL1 cL2 ltL cR0 cR1 cR2 ltR cU0 cU1 cU2 ltU
    obtain ⟨hb22, CK⟩ := after_new hb22
    replace CK := Lib.hid CK
    replace CX := Lib.hid (CX.out.after hb22)
    replace CY := Lib.hid (CY.out.after hb22)
    replace CZ := Lib.hid (CZ.out.after hb22)
    replace CD := Lib.hid (CD.out.after hb22)
    replace CP := Lib.hid (CP.out.after hb22)
    replace CQ := Lib.hid (CQ.out.after hb22)
    replace CL := Lib.hid (CL.out.after hb22)
    replace CR := Lib.hid (CR.out.after hb22)
    replace CU := Lib.hid (CU.out.after hb22)
    replace FX := Lib.hid (FX.out.after hb22)
    replace FY := Lib.hid (FY.out.after hb22)
    replace FZ := Lib.hid (FZ.out.after hb22)
    replace FD := Lib.hid (FD.out.after hb22)
    replace FP := Lib.hid (FP.out.after hb22)
    replace FQ := Lib.hid (FQ.out.after hb22)
    replace FL := Lib.hid (FL.out.after hb22)
    replace FR := Lib.hid (FR.out.after hb22)
    replace FU := Lib.hid (FU.out.after hb22)
    replace FK := Lib.hid (FK.out.after hb22)
    replace HB := Lib.hid (HB.out.trans (hb22.mono HB.out.size))
    clear hb22
    obtain ⟨cX0, cX1, cX2⟩ := CX.out.cells3
    have ltX := CX.out.lt
    obtain ⟨cY0, cY1, cY2⟩ := CY.out.cells3
    have ltY := CY.out.lt
    obtain ⟨cZ0, cZ1, cZ2⟩ := CZ.out.cells3
    have ltZ := CZ.out.lt
    obtain ⟨cD0, cD1, cD2⟩ := CD.out.cells3
    have ltD := CD.out.lt
    obtain ⟨cP0, cP1, cP2⟩ := CP.out.cells3
    have ltP := CP.out.lt
    obtain ⟨cQ0, cQ1, cQ2⟩ := CQ.out.cells3
    have ltQ := CQ.out.lt
    obtain ⟨cL0, cL1, cL2⟩ := CL.out.cells3
    have ltL := CL.out.lt
    obtain ⟨cR0, cR1, cR2⟩ := CR.out.cells3
    have ltR := CR.out.lt
    obtain ⟨cU0, cU1, cU2⟩ := CU.out.cells3
    have ltU := CU.out.lt
    obtain ⟨cK0, cK1, cK2⟩ := CK.out.cells3
    have ltK := CK.out.lt
    go_wp2_with fail
    refine (equal_c _ _ _ Lf FK.out FL.out).mono ?_
    rintro e w23 ⟨rfl, hb23⟩
    clear cX0 cX1 cX2 ltX cY0 cY1 cY2 ltY cZ0 cZ1 cZ2 ltZ cD0 cD1 cD2 ltD cP0 cP1 cP2 ltP cQ0 cQ1 cQ2 ltQ cL0 cL1 cL2 ltL cR0 cR1 cR2 ltR cU0 cU1 cU2 ltU cK0 cK1 cK2 ltK
    replace CX := Lib.hid (CX.out.after hb23)
    replace CY := Lib.hid (CY.out.after hb23)
    replace CZ := Lib.hid (CZ.out.after hb23)
    replace CD := Lib.hid (CD.out.after hb23)
    replace CP := Lib.hid (CP.out.after hb23)
    replace CQ := Lib.hid (CQ.out.after hb23)
    replace CL := Lib.hid (CL.out.after hb23)
    replace CR := Lib.hid (CR.out.after hb23)
    replace CU := Lib.hid (CU.out.after hb23)
    replace CK := Lib.hid (CK.out.after hb23)
    replace FX := Lib.hid (FX.out.after hb23)
    replace FY := Lib.hid (FY.out.after hb23)
    replace FZ := Lib.hid (FZ.out.after hb23)
    replace FD := Lib.hid (FD.out.after hb23)
    replace FP := Lib.hid (FP.out.after hb23)
    replace FQ := Lib.hid (FQ.out.after hb23)
    replace FL := Lib.hid (FL.out.after hb23)
    replace FR := Lib.hid (FR.out.after hb23)
    replace FU := Lib.hid (FU.out.after hb23)
    replace FK := Lib.hid (FK.out.after hb23)
    replace HB := Lib.hid (HB.out.trans (hb23.mono HB.out.size))
    clear hb23
    obtain ⟨cX0, cX1, cX2⟩ := CX.out.cells3
    have ltX := CX.out.lt
    obtain ⟨cY0, cY1, cY2⟩ := CY.out.cells3
    have ltY := CY.out.lt
    obtain ⟨cZ0, cZ1, cZ2⟩ := CZ.out.cells3
    have ltZ := CZ.out.lt
    obtain ⟨cD0, cD1, cD2⟩ := CD.out.cells3
    have ltD := CD.out.lt
    obtain ⟨cP0, cP1, cP2⟩ := CP.out.cells3
    have ltP := CP.out.lt
    obtain ⟨cQ0, cQ1, cQ2⟩ := CQ.out.cells3
    have ltQ := CQ.out.lt
    obtain ⟨cL0, cL1, cL2⟩ := CL.out.cells3
    have ltL := CL.out.lt
    obtain ⟨cR0, cR1, cR2⟩ := CR.out.cells3
    have ltR := CR.out.lt
    obtain ⟨cU0, cU1, cU2⟩ := CU.out.cells3
    have ltU := CU.out.lt
    obtain ⟨cK0, cK1, cK2⟩ := CK.out.cells3
    have ltK := CK.out.lt
    go_wp2_with fail
    refine (rworks_c _).mono ?_
    rintro e w24 ⟨rfl, hb24⟩
    clear cX0 cX1 cX2 ltX cY0 cY1 cY2 ltY cZ0 cZ1 cZ2 ltZ cD0 cD1 cD2 ltD cP0 cP1 cP2 ltP cQ0 cQ1 cQ2 ltQ cL0 cL1 cL2 ltL cR0 cR1 cR2 ltR cU0 cU1 cU2 ltU cK0 cK1 cK2 ltK
    replace CX := Lib.hid (CX.out.after hb24)
    replace CY := Lib.hid (CY.out.after hb24)
    replace CZ := Lib.hid (CZ.out.after hb24)
    replace CD := Lib.hid (CD.out.after hb24)
    replace CP := Lib.hid (CP.out.after hb24)
    replace CQ := Lib.hid (CQ.out.after hb24)
    replace CL := Lib.hid (CL.out.after hb24)
    replace CR := Lib.hid (CR.out.after hb24)
    replace CU := Lib.hid (CU.out.after hb24)
    replace CK := Lib.hid (CK.out.after hb24)
    replace FX := Lib.hid (FX.out.after hb24)
    replace FY := Lib.hid (FY.out.after hb24)
    replace FZ := Lib.hid (FZ.out.after hb24)
    replace FD := Lib.hid (FD.out.after hb24)
    replace FP := Lib.hid (FP.out.after hb24)
    replace FQ := Lib.hid (FQ.out.after hb24)
    replace FL := Lib.hid (FL.out.after hb24)
    replace FR := Lib.hid (FR.out.after hb24)
    replace FU := Lib.hid (FU.out.after hb24)
    replace FK := Lib.hid (FK.out.after hb24)
    replace HB := Lib.hid (HB.out.trans (hb24.mono HB.out.size))
    clear hb24
    obtain ⟨cX0, cX1, cX2⟩ := CX.out.cells3
    have ltX := CX.out.lt
    obtain ⟨cY0, cY1, cY2⟩ := CY.out.cells3
    have ltY := CY.out.lt
    obtain ⟨cZ0, cZ1, cZ2⟩ := CZ.out.cells3
    have ltZ := CZ.out.lt
    obtain ⟨cD0, cD1, cD2⟩ := CD.out.cells3
    have ltD := CD.out.lt
    obtain ⟨cP0, cP1, cP2⟩ := CP.out.cells3
    have ltP := CP.out.lt
    obtain ⟨cQ0, cQ1, cQ2⟩ := CQ.out.cells3
    have ltQ := CQ.out.lt
    obtain ⟨cL0, cL1, cL2⟩ := CL.out.cells3
    have ltL := CL.out.lt
    obtain ⟨cR0, cR1, cR2⟩ := CR.out.cells3
    have ltR := CR.out.lt
    obtain ⟨cU0, cU1, cU2⟩ := CU.out.cells3
    have ltU := CU.out.lt
    obtain ⟨cK0, cK1, cK2⟩ := CK.out.cells3
    have ltK := CK.out.lt
    go_wp2_with fail
    go_ret
    exact ⟨rfl, HB.out⟩
end Go.Proofs.Ytaojdlcailpheaa

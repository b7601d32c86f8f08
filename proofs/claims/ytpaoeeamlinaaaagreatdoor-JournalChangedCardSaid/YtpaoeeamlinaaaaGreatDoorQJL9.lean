/- Journal: the walk of JournalChanged. -/
import Derived.Laws.IdiomStrings
import Derived.Test.YtpaoeeamlinaaaaGreatDoorQJ6
import Derived.Test.YtpaoeeamlinaaaaGreatDoorQJL7
set_option linter.unusedVariables false
namespace Go.Proofs.YtpaoeeamlinaaaaGreatDoor
open Go.RowKit

/-- What an operation yields: a value, or a slice of one byte. -/
inductive KB where
  | any
  | eq (u : Value)
  | byte (x : Nat)
def KB.holds (k : KB) (v : Value) (w : World) : Prop := match k with
  | .any => True
  | .eq u => v = u
  | .byte x => ∃ b c, v = .slice (some ⟨b, 0, none⟩) 1 c ∧ w.cell? ⟨b, 0, none⟩ = some (.int .u8 (x : Int))
def SB (K : Nat → KB) (k : Nat) (v : Value) (w : World) : Prop := (K k).holds v w
theorem SB.keep {K : Nat → KB} {k : Nat} {v : Value} {w w' : World} (h : SB K k v w) (hb : Below w.heap.size w w') : SB K k v w' := by
  unfold SB at h ⊢
  generalize K k = κ at h ⊢
  cases κ with
  | any => trivial
  | eq u => exact h
  | byte x =>
    obtain ⟨b, c, e, hc⟩ := h
    exact ⟨b, c, e, keep_cell hb hc⟩
theorem SB.of {K : Nat → KB} {k : Nat} {v : Value} {w : World} (κ : KB) (hk : K k = κ) (h : κ.holds v w) : SB K k v w := by unfold SB; rw [hk]; exact h
theorem xor_u8 (a b : Nat) (ha : a < 256) (hb : b < 256) : bits .xor .u8 (a : Int) (b : Int) = ((a ^^^ b : Nat) : Int) := by
  have hx : a ^^^ b < 2 ^ 8 := Nat.xor_lt_two_pow (by omega) (by omega)
  have h1 : (BitVec.ofInt 8 (a : Int)).toNat = a := by
    rw [BitVec.ofInt_natCast, BitVec.toNat_ofNat]; exact Nat.mod_eq_of_lt (by omega)
  have h2 : (BitVec.ofInt 8 (b : Int)).toNat = b := by
    rw [BitVec.ofInt_natCast, BitVec.toNat_ofNat]; exact Nat.mod_eq_of_lt (by omega)
  show IntKind.u8.wrap ((BitVec.ofInt 8 (a : Int) ^^^ BitVec.ofInt 8 (b : Int)).toNat : Int) = _
  rw [BitVec.toNat_xor, h1, h2, wrap_8]
  omega
theorem xor_ne {a b : Nat} (hb : b ≠ 0) : a ^^^ b ≠ a := by
  intro e
  apply hb
  have h := congrArg (a ^^^ ·) e
  simpa [← Nat.xor_assoc] using h
set_option maxRecDepth 100000 in
set_option maxHeartbeats 2000000 in
theorem journalChanged_w (w : World) (v : Value) (rs0 : List Rec) (pl ch : Nat) (hpl : pl < 65536) (hch : ch < 256) (h : SlR w v rs0) (he : Env w) : Calls Tryz.prog 7 #[v, .int .u16 (pl : Int), .int .u8 (ch : Int)] w fun e w' => e = .returned (.bool true) ∧ Below w.heap.size w w' := by
  have HE := Lib.hid he
  have H0 := Lib.hid h
  obtain ⟨p0, c0, rfl, _, _⟩ := h.shape
  clear h he
  go_enter Tryz.func7, Tryz.ntmps7
  go_wp2_with fail
  refine (some_c w _ rs0 H0.out).mono ?_
  rintro e w1 ⟨u, rs, rfl, hu, h20, hcan, hb1⟩
  obtain ⟨p, c, rfl, hc1, hc2⟩ := hu.shape
  have HU := Lib.hid hu
  have HCAN := Lib.hid hcan
  have HB1 := Lib.hid hb1
  obtain ⟨S, hS⟩ : ∃ S, rs.flatMap lineT = S := ⟨_, rfl⟩
  have hL : linesF rs = (S, 0) := by unfold linesF; rw [if_neg (by omega), if_pos hcan, hS]
  have HL := Lib.hid hL
  have hSl : S.length ≤ 40000 := by rw [← hS]; have := lines_len hcan; omega
  have HSS := Lib.hid hS
  have HSL := Lib.hid hSl
  clear hu hcan hb1 hS hL
  go_wp2_with fail
  refine (Lines_c w1 _ rs HU.out (HE.out.after HB1.out)).mono ?_
  unfold RetLs
  rw [HL.out]
  rintro e w2 ⟨rfl, hb2⟩
  have HB2 : Hid (Below w.heap.size w w2) := HB1.out.trans (hb2.mono HB1.out.size)
  have HU2 := Lib.hid (HU.out.after hb2)
  clear hb2
  dsimp only
  have hSz := bs_size S
  by_cases hS0 : S.length = 0
  · have z1 : ((S.length : Int) == 0) = true := by rw [beq_iff_eq]; omega
    clear hS0
    go_wp2_with fail
    refine (lives_c w2 (HE.out.after HB2.out)).mono ?_
    rintro e w3 ⟨rfl, hb3⟩
    have HB3 : Hid (Below w.heap.size w w3) := HB2.out.trans (hb3.mono HB2.out.size)
    clear hb3
    go_wp2_with fail
    go_ret
    exact ⟨rfl, HB3.out⟩
  have z1 : ((S.length : Int) == 0) = false := by rw [beq_eq_false_iff_ne]; omega
  by_cases hc0 : ch = 0
  · have z2 : ((ch : Int) == 0) = true := by rw [beq_iff_eq]; omega
    clear hS0 hc0
    go_wp2_with fail
    refine (lives_c w2 (HE.out.after HB2.out)).mono ?_
    rintro e w3 ⟨rfl, hb3⟩
    have HB3 : Hid (Below w.heap.size w w3) := HB2.out.trans (hb3.mono HB2.out.size)
    clear hb3
    go_wp2_with fail
    go_ret
    exact ⟨rfl, HB3.out⟩
  have z2 : ((ch : Int) == 0) = false := by rw [beq_eq_false_iff_ne]; omega
  obtain ⟨q, hk⟩ : ∃ q, pl % S.length = q := ⟨_, rfl⟩
  have hq1 : q < S.length := by rw [← hk]; exact Nat.mod_lt pl (by omega)
  have hke : (pl : Int) % (S.length : Int) = (q : Int) := by rw [← hk, Int.natCast_emod]
  have hkt : (pl : Int).tmod (S.length : Int) = (q : Int) := by rw [Int.tmod_eq_emod_of_nonneg (by omega)]; exact hke
  have hnz' : ¬ ((S.length : Int) = 0) := by omega
  have HQ := Lib.hid hq1
  have HNC := Lib.hid hc0
  have HS0 := Lib.hid hS0
  clear hk hS0 hc0
  go_upto_region 6 with fail
  have hSl := HSL.out
  obtain ⟨A, hA⟩ : ∃ A, S.take q = A := ⟨_, rfl⟩
  obtain ⟨D, hD⟩ : ∃ D, S.drop (q + 1) = D := ⟨_, rfl⟩
  have hx1 : (bs S).extract 0 q = bs A := by rw [extract_front, hA]
  obtain ⟨q1, hqq⟩ : ∃ q1, q + 1 = q1 := ⟨_, rfl⟩
  have hx2 : (bs S).extract q1 S.length = bs D := by rw [extract_bs, List.take_length, ← hqq, hD]
  have hq2 : (q : Int) + 1 = (q1 : Int) := by omega
  have hq3 : q1 ≤ S.length := by omega
  obtain ⟨cc, hcc⟩ : ∃ cc, (S[q]).toNat = cc := ⟨_, rfl⟩
  have hc256 : cc < 256 := by rw [← hcc]; exact (S[q]).toNat_lt
  have hli : q < (bs S).size := by rw [hSz]; exact hq1
  have hget : ((bs S)[q]).toNat = cc := hcc
  obtain ⟨cx, hcx⟩ : ∃ cx, cc ^^^ ch = cx := ⟨_, rfl⟩
  have HXOR : Hid (bits .xor .u8 (cc : Int) (ch : Int) = (cx : Int)) := by show _ = _; rw [xor_u8 cc ch hc256 hch, hcx]
  have hcx256 : cx < 256 := by rw [← hcx]; exact Nat.xor_lt_two_pow (n := 8) hc256 hch
  have HNE : Hid (UInt8.ofNat cx ≠ S[q]) := fun e => by
    have h := (congrArg UInt8.toNat e).trans hcc
    rw [UInt8.toNat_ofNat_of_lt' (by simpa using hcx256), ← hcx] at h
    exact xor_ne HNC.out h
  obtain ⟨XB, hXB⟩ : ∃ XB, [UInt8.ofNat cx] = XB := ⟨_, rfl⟩
  have HCV : Hid (∀ (wx : World) (b c : Nat), wx.cell? ⟨b, 0, none⟩ = some (.int .u8 (cx : Int)) → (convert 48 9 (.slice (some ⟨b, 0, none⟩) 1 c)).run Tryz.prog wx = .ok (.string (bs XB)) wx) := fun wx b c hc => by
    rw [← hXB]
    refine run_convert_bytes_back wx _ _ 5 ⟨b, 0, none⟩ c [UInt8.ofNat cx] Tryz.underlying48 Tryz.underlying5 Tryz.underlying9 (fun j hj => ?_)
    obtain rfl : j = 0 := by simpa using hj
    rw [show (⟨b, 0, none⟩ : Addr).add 0 = ⟨b, 0, none⟩ from rfl, hc]
    simp [UInt8.toNat_ofNat_of_lt' (show cx < 2 ^ 8 by simpa using hcx256)]
  obtain ⟨G1, hG1⟩ : ∃ G1, A ++ XB = G1 := ⟨_, rfl⟩
  obtain ⟨G2, hG2⟩ : ∃ G2, G1 ++ D = G2 := ⟨_, rfl⟩
  have c1 : bs A ++ bs XB = bs G1 := by rw [← hG1]; exact append_bs A XB
  have c2 : bs G1 ++ bs D = bs G2 := by rw [← hG2]; exact append_bs G1 D
  have b1 := bs_size A
  have b2 := bs_size XB
  have b3 := bs_size G1
  have b4 := bs_size D
  have l1 : A.length = q := by rw [← hA, List.length_take]; omega
  have l2 : XB.length = 1 := by rw [← hXB]; rfl
  have l3 : G1.length ≤ 40001 := by rw [← hG1, List.length_append]; omega
  have l4 : D.length ≤ 40000 := by rw [← hD, List.length_drop]; omega
  have HG2 : Hid (G2 = S.take q ++ UInt8.ofNat cx :: S.drop (q + 1)) := by show _ = _; rw [← hG2, ← hG1, ← hXB, hA, hD]; simp
  have HG2L : Hid (G2.length ≤ 90000) := by show _ ≤ _; rw [← hG2, List.length_append]; omega
  have lA : A.length ≤ 40000 := by omega
  have hq0 : q ≤ S.length := by omega
  have hn1 : ¬ (9223372036854775807 < A.length + 1) := by omega
  have hn2 : ¬ (9223372036854775807 < G1.length + D.length) := by omega
  clear hA hD hqq hcc hcx hXB hG1 hG2 l1
  refine wp_region_gj (J := GJ _ (fun _ => SB (fun κ => match κ with | 0 => (.eq (.string (bs S))) | 1 => (.eq (.int .i64 (q : Int))) | 2 => (.eq (.string (bs A))) | 3 => (.eq (.string (bs S))) | 4 => (.eq (.int .i64 (q : Int))) | 5 => (.eq (.int .u8 (cc : Int))) | 6 => (.eq (.int .u8 (ch : Int))) | 7 => (.eq (.int .u8 (cx : Int))) | 8 => (.byte cx) | 9 => (.eq (.string (bs XB))) | 10 => (.eq (.string (bs G1))) | 11 => (.eq (.string (bs S))) | 12 => (.eq (.int .i64 (q : Int))) | 13 => (.eq (.int .i64 (q1 : Int))) | 14 => (.eq (.string (bs D))) | 15 => (.eq (.string (bs G2))) | 16 => (.eq (.string (bs G2))) | _ => .any)) (fun _ _ w => Below w2.heap.size w2 w) _) (by kernel_rfl) ?_ ?_ (GJ.start (below_dr (Below.refl _ _)))
  · intro listed a_ w9 i_ hr hj
    obtain ⟨hi12, hun, _, _, _⟩ := ready_mem hr
    have h12 : i_ ∈ List.range 17 := List.mem_range.2 hi12
    simp only [List.range, List.range.loop, List.mem_cons, List.not_mem_nil, or_false] at h12
    obtain ⟨f, rfl, hcm, hf⟩ := hj.opened [46, 47, 48, 49, 50, 51, 52, 53, 54, 55, 56, 57, 58, 59, 60, 61, 10] (by kernel_rfl)
    replace hcm : Below w2.heap.size w2 w9 := hcm
    rcases h12 with rfl | rfl | rfl | rfl | rfl | rfl | rfl | rfl | rfl | rfl | rfl | rfl | rfl | rfl | rfl | rfl | rfl
    · refine GJ.op hj (by kernel_rfl) hr rfl [46, 47, 48, 49, 50, 51, 52, 53, 54, 55, 56, 57, 58, 59, 60, 61, 10] (by kernel_rfl) (fun K hK => ?_)
      simp only [Act.put, List.foldl_cons, List.foldl_nil, List.setIfInBounds_toArray, List.set_cons_zero, List.set_cons_succ] at hK ⊢
      clear hj hf
      go_simp
      exact hK _ _ (fun k v _ _ h => h.keep (Below.refl _ _)) (fun t ht => SB.of (.eq (.string (bs S))) rfl rfl) (hcm.trans ((Below.refl _ _).mono hcm.size))
    · refine GJ.op hj (by kernel_rfl) hr rfl [46, 47, 48, 49, 50, 51, 52, 53, 54, 55, 56, 57, 58, 59, 60, 61, 10] (by kernel_rfl) (fun K hK => ?_)
      simp only [Act.put, List.foldl_cons, List.foldl_nil, List.setIfInBounds_toArray, List.set_cons_zero, List.set_cons_succ] at hK ⊢
      clear hj hf
      go_simp
      exact hK _ _ (fun k v _ _ h => h.keep (Below.refl _ _)) (fun t ht => SB.of (.eq (.int .i64 (q : Int))) rfl rfl) (hcm.trans ((Below.refl _ _).mono hcm.size))
    · have e1 : f 46 = .string (bs S) := hf 0 _ _ rfl rfl (up_dep hr (by kernel_rfl))
      have e2 : f 47 = .int .i64 (q : Int) := hf 1 _ _ rfl rfl (up_dep hr (by kernel_rfl))
      refine GJ.op hj (by kernel_rfl) hr rfl [46, 47, 48, 49, 50, 51, 52, 53, 54, 55, 56, 57, 58, 59, 60, 61, 10] (by kernel_rfl) (fun K hK => ?_)
      simp only [Act.put, List.foldl_cons, List.foldl_nil, List.setIfInBounds_toArray, List.set_cons_zero, List.set_cons_succ] at hK ⊢
      clear hj hf
      rw [e1, e2] at hK ⊢
      clear e1 e2
      go_simp
      exact hK _ _ (fun k v _ _ h => h.keep (Below.refl _ _)) (fun t ht => SB.of (.eq (.string (bs A))) rfl rfl) (hcm.trans ((Below.refl _ _).mono hcm.size))
    · refine GJ.op hj (by kernel_rfl) hr rfl [46, 47, 48, 49, 50, 51, 52, 53, 54, 55, 56, 57, 58, 59, 60, 61, 10] (by kernel_rfl) (fun K hK => ?_)
      simp only [Act.put, List.foldl_cons, List.foldl_nil, List.setIfInBounds_toArray, List.set_cons_zero, List.set_cons_succ] at hK ⊢
      clear hj hf
      go_simp
      exact hK _ _ (fun k v _ _ h => h.keep (Below.refl _ _)) (fun t ht => SB.of (.eq (.string (bs S))) rfl rfl) (hcm.trans ((Below.refl _ _).mono hcm.size))
    · refine GJ.op hj (by kernel_rfl) hr rfl [46, 47, 48, 49, 50, 51, 52, 53, 54, 55, 56, 57, 58, 59, 60, 61, 10] (by kernel_rfl) (fun K hK => ?_)
      simp only [Act.put, List.foldl_cons, List.foldl_nil, List.setIfInBounds_toArray, List.set_cons_zero, List.set_cons_succ] at hK ⊢
      clear hj hf
      go_simp
      exact hK _ _ (fun k v _ _ h => h.keep (Below.refl _ _)) (fun t ht => SB.of (.eq (.int .i64 (q : Int))) rfl rfl) (hcm.trans ((Below.refl _ _).mono hcm.size))
    · have e1 : f 49 = .string (bs S) := hf 3 _ _ rfl rfl (up_dep hr (by kernel_rfl))
      have e2 : f 50 = .int .i64 (q : Int) := hf 4 _ _ rfl rfl (up_dep hr (by kernel_rfl))
      refine GJ.op hj (by kernel_rfl) hr rfl [46, 47, 48, 49, 50, 51, 52, 53, 54, 55, 56, 57, 58, 59, 60, 61, 10] (by kernel_rfl) (fun K hK => ?_)
      simp only [Act.put, List.foldl_cons, List.foldl_nil, List.setIfInBounds_toArray, List.set_cons_zero, List.set_cons_succ] at hK ⊢
      clear hj hf
      rw [e1, e2] at hK ⊢
      clear e1 e2
      go_simp
      exact hK _ _ (fun k v _ _ h => h.keep (Below.refl _ _)) (fun t ht => SB.of (.eq (.int .u8 (cc : Int))) rfl rfl) (hcm.trans ((Below.refl _ _).mono hcm.size))
    · refine GJ.op hj (by kernel_rfl) hr rfl [46, 47, 48, 49, 50, 51, 52, 53, 54, 55, 56, 57, 58, 59, 60, 61, 10] (by kernel_rfl) (fun K hK => ?_)
      simp only [Act.put, List.foldl_cons, List.foldl_nil, List.setIfInBounds_toArray, List.set_cons_zero, List.set_cons_succ] at hK ⊢
      clear hj hf
      go_simp
      exact hK _ _ (fun k v _ _ h => h.keep (Below.refl _ _)) (fun t ht => SB.of (.eq (.int .u8 (ch : Int))) rfl rfl) (hcm.trans ((Below.refl _ _).mono hcm.size))
    · have e1 : f 51 = .int .u8 (cc : Int) := hf 5 _ _ rfl rfl (up_dep hr (by kernel_rfl))
      have e2 : f 52 = .int .u8 (ch : Int) := hf 6 _ _ rfl rfl (up_dep hr (by kernel_rfl))
      refine GJ.op hj (by kernel_rfl) hr rfl [46, 47, 48, 49, 50, 51, 52, 53, 54, 55, 56, 57, 58, 59, 60, 61, 10] (by kernel_rfl) (fun K hK => ?_)
      simp only [Act.put, List.foldl_cons, List.foldl_nil, List.setIfInBounds_toArray, List.set_cons_zero, List.set_cons_succ] at hK ⊢
      clear hj hf
      rw [e1, e2] at hK ⊢
      clear e1 e2
      go_simp
      rw [HXOR.out]
      exact hK _ _ (fun k v _ _ h => h.keep (Below.refl _ _)) (fun t ht => SB.of (.eq (.int .u8 (cx : Int))) rfl rfl) (hcm.trans ((Below.refl _ _).mono hcm.size))
    · have e1 : f 53 = .int .u8 (cx : Int) := hf 7 _ _ rfl rfl (up_dep hr (by kernel_rfl))
      refine GJ.op hj (by kernel_rfl) hr rfl [46, 47, 48, 49, 50, 51, 52, 53, 54, 55, 56, 57, 58, 59, 60, 61, 10] (by kernel_rfl) (fun K hK => ?_)
      simp only [Act.put, List.foldl_cons, List.foldl_nil, List.setIfInBounds_toArray, List.set_cons_zero, List.set_cons_succ] at hK ⊢
      clear hj hf
      rw [e1] at hK ⊢
      clear e1
      go_simp
      exact hK _ _ (fun k v _ _ h => h.keep (held_alloc (Below.refl _ _))) (fun t ht => SB.of (.byte cx) rfl ⟨_, _, rfl, (Box.new w9 _ _).cell 0⟩) (hcm.trans ((held_alloc (Below.refl _ _)).mono hcm.size))
    · obtain ⟨b9, c9, e1, hc9⟩ : SB (fun _ => .byte cx) 8 (f 54) w9 := hf 8 _ _ rfl rfl (up_dep hr (by kernel_rfl))
      have hcv := HCV.out w9 b9 c9 hc9
      refine GJ.op hj (by kernel_rfl) hr rfl [46, 47, 48, 49, 50, 51, 52, 53, 54, 55, 56, 57, 58, 59, 60, 61, 10] (by kernel_rfl) (fun K hK => ?_)
      simp only [Act.put, List.foldl_cons, List.foldl_nil, List.setIfInBounds_toArray, List.set_cons_zero, List.set_cons_succ] at hK ⊢
      clear hj hf
      rw [e1] at hK ⊢
      clear e1
      go_simp
      exact hK _ _ (fun k v _ _ h => h.keep (Below.refl _ _)) (fun t ht => SB.of (.eq (.string (bs XB))) rfl rfl) hcm
    · have e1 : f 48 = .string (bs A) := hf 2 _ _ rfl rfl (up_dep hr (by kernel_rfl))
      have e2 : f 55 = .string (bs XB) := hf 9 _ _ rfl rfl (up_dep hr (by kernel_rfl))
      refine GJ.op hj (by kernel_rfl) hr rfl [46, 47, 48, 49, 50, 51, 52, 53, 54, 55, 56, 57, 58, 59, 60, 61, 10] (by kernel_rfl) (fun K hK => ?_)
      simp only [Act.put, List.foldl_cons, List.foldl_nil, List.setIfInBounds_toArray, List.set_cons_zero, List.set_cons_succ] at hK ⊢
      clear hj hf
      rw [e1, e2] at hK ⊢
      clear e1 e2
      go_simp
      exact hK _ _ (fun k v _ _ h => h.keep (Below.refl _ _)) (fun t ht => SB.of (.eq (.string (bs G1))) rfl rfl) (hcm.trans ((Below.refl _ _).mono hcm.size))
    · refine GJ.op hj (by kernel_rfl) hr rfl [46, 47, 48, 49, 50, 51, 52, 53, 54, 55, 56, 57, 58, 59, 60, 61, 10] (by kernel_rfl) (fun K hK => ?_)
      simp only [Act.put, List.foldl_cons, List.foldl_nil, List.setIfInBounds_toArray, List.set_cons_zero, List.set_cons_succ] at hK ⊢
      clear hj hf
      go_simp
      exact hK _ _ (fun k v _ _ h => h.keep (Below.refl _ _)) (fun t ht => SB.of (.eq (.string (bs S))) rfl rfl) (hcm.trans ((Below.refl _ _).mono hcm.size))
    · refine GJ.op hj (by kernel_rfl) hr rfl [46, 47, 48, 49, 50, 51, 52, 53, 54, 55, 56, 57, 58, 59, 60, 61, 10] (by kernel_rfl) (fun K hK => ?_)
      simp only [Act.put, List.foldl_cons, List.foldl_nil, List.setIfInBounds_toArray, List.set_cons_zero, List.set_cons_succ] at hK ⊢
      clear hj hf
      go_simp
      exact hK _ _ (fun k v _ _ h => h.keep (Below.refl _ _)) (fun t ht => SB.of (.eq (.int .i64 (q : Int))) rfl rfl) (hcm.trans ((Below.refl _ _).mono hcm.size))
    · have e1 : f 58 = .int .i64 (q : Int) := hf 12 _ _ rfl rfl (up_dep hr (by kernel_rfl))
      refine GJ.op hj (by kernel_rfl) hr rfl [46, 47, 48, 49, 50, 51, 52, 53, 54, 55, 56, 57, 58, 59, 60, 61, 10] (by kernel_rfl) (fun K hK => ?_)
      simp only [Act.put, List.foldl_cons, List.foldl_nil, List.setIfInBounds_toArray, List.set_cons_zero, List.set_cons_succ] at hK ⊢
      clear hj hf
      rw [e1] at hK ⊢
      clear e1
      go_simp
      rw [wrap_in (z := (q1 : Int)) (by omega) (by omega)]
      exact hK _ _ (fun k v _ _ h => h.keep (Below.refl _ _)) (fun t ht => SB.of (.eq (.int .i64 (q1 : Int))) rfl rfl) (hcm.trans ((Below.refl _ _).mono hcm.size))
    · have e1 : f 57 = .string (bs S) := hf 11 _ _ rfl rfl (up_dep hr (by kernel_rfl))
      have e2 : f 59 = .int .i64 (q1 : Int) := hf 13 _ _ rfl rfl (up_dep hr (by kernel_rfl))
      refine GJ.op hj (by kernel_rfl) hr rfl [46, 47, 48, 49, 50, 51, 52, 53, 54, 55, 56, 57, 58, 59, 60, 61, 10] (by kernel_rfl) (fun K hK => ?_)
      simp only [Act.put, List.foldl_cons, List.foldl_nil, List.setIfInBounds_toArray, List.set_cons_zero, List.set_cons_succ] at hK ⊢
      clear hj hf
      rw [e1, e2] at hK ⊢
      clear e1 e2
      go_simp
      exact hK _ _ (fun k v _ _ h => h.keep (Below.refl _ _)) (fun t ht => SB.of (.eq (.string (bs D))) rfl rfl) (hcm.trans ((Below.refl _ _).mono hcm.size))
    · have e1 : f 56 = .string (bs G1) := hf 10 _ _ rfl rfl (up_dep hr (by kernel_rfl))
      have e2 : f 60 = .string (bs D) := hf 14 _ _ rfl rfl (up_dep hr (by kernel_rfl))
      refine GJ.op hj (by kernel_rfl) hr rfl [46, 47, 48, 49, 50, 51, 52, 53, 54, 55, 56, 57, 58, 59, 60, 61, 10] (by kernel_rfl) (fun K hK => ?_)
      simp only [Act.put, List.foldl_cons, List.foldl_nil, List.setIfInBounds_toArray, List.set_cons_zero, List.set_cons_succ] at hK ⊢
      clear hj hf
      rw [e1, e2] at hK ⊢
      clear e1 e2
      go_simp
      exact hK _ _ (fun k v _ _ h => h.keep (Below.refl _ _)) (fun t ht => SB.of (.eq (.string (bs G2))) rfl rfl) (hcm.trans ((Below.refl _ _).mono hcm.size))
    · have e1 : f 61 = .string (bs G2) := hf 15 _ _ rfl rfl (up_dep hr (by kernel_rfl))
      refine GJ.op hj (by kernel_rfl) hr rfl [46, 47, 48, 49, 50, 51, 52, 53, 54, 55, 56, 57, 58, 59, 60, 61, 10] (by kernel_rfl) (fun K hK => ?_)
      simp only [Act.put, List.foldl_cons, List.foldl_nil, List.setIfInBounds_toArray, List.set_cons_zero, List.set_cons_succ] at hK ⊢
      clear hj hf
      rw [e1] at hK ⊢
      clear e1
      go_simp
      exact hK _ _ (fun k v _ _ h => h.keep (Below.refl _ _)) (fun t ht => SB.of (.eq (.string (bs G2))) rfl rfl) (hcm.trans ((Below.refl _ _).mono hcm.size))
  · intro listed a_ w10 hr hj
    have hu : ∀ k, k < 17 → up listed k := fun k hk => all_up (by kernel_rfl) hj.lsize hr k hk
    obtain ⟨f, rfl, hcm, hf⟩ := hj.opened [46, 47, 48, 49, 50, 51, 52, 53, 54, 55, 56, 57, 58, 59, 60, 61, 10] (by kernel_rfl)
    replace hcm : Below w2.heap.size w2 w10 := hcm
    have HLast : f 10 = .string (bs G2) := hf 16 _ _ rfl rfl (hu 16 (by omega))
    have HBR := Lib.hid hcm
    clear hf hj hr hu hcm
    simp only [List.foldl_cons, List.foldl_nil, List.setIfInBounds_toArray, List.set_cons_zero, List.set_cons_succ]
    rw [HLast]
    clear HLast
    generalize f 46 = g46
    generalize f 47 = g47
    generalize f 48 = g48
    generalize f 49 = g49
    generalize f 50 = g50
    generalize f 51 = g51
    generalize f 52 = g52
    generalize f 53 = g53
    generalize f 54 = g54
    generalize f 55 = g55
    generalize f 56 = g56
    generalize f 57 = g57
    generalize f 58 = g58
    generalize f 59 = g59
    generalize f 60 = g60
    generalize f 61 = g61
    clear f
    have HB3 : Hid (Below w.heap.size w w10) := HB2.out.trans (HBR.out.mono HB2.out.size)
    have HU3 := Lib.hid (HU2.out.after HBR.out)
    clear HBR hx1 hx2 hget c1 c2 b1 b2 b3 b4
    go_wp2_with fail
    go_loopg [11, 12] rs.length (fun g tm tw wx => ∃ i : Nat, i ≤ rs.length ∧ g = rs.length - i ∧ tm = .int .i64 (i : Int) ∧ tw = .int .i64 (flen rs i : Int) ∧ flen rs i ≤ q ∧ Hid (Below w10.heap.size w10 wx))
    case atStart => exact ⟨0, Nat.zero_le _, rfl, rfl, rfl, Nat.zero_le _, Below.refl _ _⟩
    case round =>
      obtain ⟨i, hi, rfl, rfl, rfl, hfk, hbl⟩ := hrel
      have hfS := flen_le rs i
      rw [HSS.out] at hfS
      by_cases hlt : i < rs.length
      rotate_left
      · obtain rfl : i = rs.length := by omega
        have hh : flen rs rs.length = S.length := by unfold flen; rw [List.take_length, HSS.out]
        have hq9 := HQ.out
        omega
      obtain ⟨r, hr⟩ : ∃ r, rs.getD i Rec.none = r := ⟨_, rfl⟩
      obtain ⟨ba, oa, ca, pS, cS, pL, cL, ea, lba, ⟨y0, y1, y2, y3, y4, y5, y6⟩, hir⟩ := (HU3.out.after hbl.out).rec_at hlt hr
      injection ea with ea _ ec
      subst ea ec
      have HIR := Lib.hid hir
      have hnx := flen_next rs i hlt
      have hfn := flen_le rs (i + 1)
      have hri : rs[i] = r := by rw [← hr, List.getD_eq_getElem?_getD, List.getElem?_eq_getElem hlt]; rfl
      have HCR : Hid (CanW r) := HCAN.out r (by rw [← hri]; exact List.getElem_mem hlt)
      have HCH : Hid (q < flen rs i + (lineT r).length → ∃ er, readF G2 = (rs.take i, flen rs i, er) ∧ (er = 0 ↔ q + 1 = S.length)) := fun h => by
        rw [HG2.out]
        exact changed_lines HCAN.out (by omega) (fun x hx => Nat.le_trans (lineT_len (HCAN.out x hx)) (by omega)) HSS.out hlt hri rfl hfk h _ HQ.out HNE.out
      rw [HSS.out] at hfn
      rw [hr] at hnx
      obtain ⟨T, hT⟩ : ∃ T, lineT r = T := ⟨_, rfl⟩
      rw [hT] at hnx HCH
      have hl : lineF r = (T, 0) := by unfold lineF; rw [if_pos HCR.out, hT]
      obtain ⟨fi, hfi⟩ : ∃ fi, flen rs i = fi := ⟨_, rfl⟩
      have HLF := Lib.hid hl
      have HNX := Lib.hid hnx
      rw [hfi] at hfk hfS HCH HNX ⊢
      have hTz := bs_size T
      have il : (i : Int) < (rs.length : Int) := by omega
      have i0 : (0 : Int) ≤ (i : Int) := by omega
      have hTl : fi + T.length ≤ 40000 := by rw [← HNX.out]; have := HSL.out; omega
      clear hir hr hri hnx hfn hT hl hfi
      go_wp2_with fail
      refine (Line_c wr _ r HIR.out (HE.out.after (HB3.out.trans (hbl.out.mono HB3.out.size)))).mono ?_
      unfold RetL
      rw [HLF.out]
      rintro e w3 ⟨rfl, hb3⟩
      have HB4 : Hid (Below w10.heap.size w10 w3) := hbl.out.trans (hb3.mono hbl.out.size)
      clear hb3 y0 y1 y2 y3 y4 y5 y6
      dsimp only
      by_cases hgt : q < fi + T.length
      rotate_left
      · have q1' : ¬ (q : Int) < (fi : Int) + (T.length : Int) := by omega
        have q2' : decide ((q : Int) < (fi : Int) + (T.length : Int)) = false := decide_eq_false q1'
        have HGT := Lib.hid hgt
        clear hgt
        go_wp2_with fail
        go_roundg (rs.length - (i + 1))
        case measure => omega
        case rel => exact ⟨i + 1, by omega, rfl, by go_num, by rw [HNX.out]; go_num, by have := HGT.out; rw [HNX.out]; omega, HB4.out⟩
      obtain ⟨er, hrd, her⟩ := HCH.out hgt
      have HRD := Lib.hid hrd
      obtain ⟨zz, hzz⟩ : ∃ zz, (er == 0) = zz := ⟨_, rfl⟩
      have hz2 : ((q : Int) == (S.length : Int) - 1) = zz := by
        rw [← hzz, Bool.eq_iff_iff, beq_iff_eq, beq_iff_eq, her]
        have := HQ.out
        omega
      have q1' : (q : Int) < (fi : Int) + (T.length : Int) := by omega
      have q2' : decide ((q : Int) < (fi : Int) + (T.length : Int)) = true := decide_eq_true q1'
      have HZZ := Lib.hid hzz
      have HZ2 := Lib.hid hz2
      clear hgt hrd her hzz hz2
      go_wp2_with fail
      refine (Read_c w3 G2 (by have := HG2L.out; omega) (HE.out.after (HB3.out.trans (HB4.out.mono HB3.out.size)))).mono ?_
      unfold RetRd
      rw [HRD.out]
      rintro e w4 ⟨vr, rfl, hv, hb4⟩
      have HB5 : Hid (Below w10.heap.size w10 w4) := HB4.out.trans (hb4.mono HB4.out.size)
      have HV := Lib.hid (hv.slR (fun _ _ k => k.is))
      have HUF := Lib.hid ((HU3.out.after HB5.out).front (m := i) (by omega))
      have qm1 : (i : Int) ≤ (c : Int) := by omega
      have qm0 : (0 : Int) ≤ (i : Int) := by omega
      clear hv hb4
      dsimp only
      go_wp2_with fail
      refine (rSameAll_c w4 vr _ (rs.take i) (rs.take i) HV.out HUF.out).mono ?_
      rw [decide_eq_true (rfl : rs.take i = rs.take i)]
      rintro e w5 ⟨rfl, hb5⟩
      have HB6 : Hid (Below w10.heap.size w10 w5) := HB5.out.trans (hb5.mono HB5.out.size)
      have hzz := HZZ.out
      have hz2 := HZ2.out
      have hzs : (zz == zz) = true := by simp
      clear hb5
      go_wp2_with fail
      refine (lives_c w5 (HE.out.after (HB3.out.trans (HB6.out.mono HB3.out.size)))).mono ?_
      rintro e w6 ⟨rfl, hb6⟩
      have HB7 : Hid (Below w10.heap.size w10 w6) := HB6.out.trans (hb6.mono HB6.out.size)
      clear hb6
      go_wp2_with fail
      go_ret
      exact ⟨rfl, HB3.out.trans (HB7.out.mono HB3.out.size)⟩
end Go.Proofs.YtpaoeeamlinaaaaGreatDoor

/- The examples of CanaryKnown: drawn regions of the walk (10). -/
import Derived.Test.YtebmegodeglobaaQGr0
set_option linter.unusedVariables false
namespace Go.Proofs.Ytebmegodeglobaa
open Go.RowKit

set_option maxRecDepth 100000 in
set_option maxHeartbeats 16000000 in
theorem known_r10 (ops : Array Oper) (hops : (Try.f3.body.bind (regOf 10)) = some ops) {w0 : World} {q : F} {A6 : Nat} {q1 q2 : Option Addr} {j1 j2 : Nat} {Q : Exit → Act → World → Prop} {x0 x1 x2 x3 x4 x5 x7 x8 x9 x10 x11 x12 x13 x14 x15 x16 x17 x18 x19 x20 x21 x22 x23 x24 x25 x26 x27 x28 x29 x30 x31 x32 x33 x34 x35 x36 x37 x38 x39 x40 x41 x42 x43 x44 x45 x46 x47 x48 x49 x50 x51 x52 x53 x54 x55 x56 x57 x58 x59 x60 x61 x62 x63 x64 x65 x66 x67 x68 x69 x70 x71 x72 x73 x74 x75 x76 x77 x78 x79 x80 x81 x82 x83 x84 x85 x86 x87 x88 x89 x90 x91 x92 x93 x94 x95 x96 x97 x98 x99 x100 x101 x102 x103 x104 x105 x106 x107 x108 x109 x110 x111 x112 x113 x114 x115 x116 x117 x118 x119 x120 x121 x122 x123 x124 x125 x126 x127 x128 x129 x130 x131 x132 x133 x134 x135 x136 x137 x138 x139 x140 x141 x142 x143 x144 x145 x146 x147 x148 x149 x150 x151 x152 x153 x154 x155 x156 x157 x158 x159 x160 x161 x162 x163 x164 x165 x166 x167 x168 x169 x170 x171 x172 x173 x174 x175 x176 x177 x178 x179 x180 x181 x182 x183 x184 x185 x186 x187 x188 x189 x190 x191 x192 x193 x194 x195 x196 x197 x198 x199 x200 x201 x202 x203 x204 x205 x206 x207 x208 x209 x210 x211 x212 x213 x214 x215 x216 x217 x218 x219 x220 x221 x222 x223 x224 x225 x226 x227 x228 x229 x230 x231 x232 x233 x234 x235 x236 x237 x238 x239 x240 x241 x242 x243 x244 x245 x246 x247 x248 x249 x250 x251 x252 x253 x254 x255 x256 x257 x258 x259 x260 x261 x262 x263 x264 x265 x266 x267 x268 x269 x270 x271 x272 x273 x274 x275 x276 x277 x278 x279 x280 x281 x282 x283 x284 x285 x286 x287 x288 x289 x290 x291 x292 x293 x294 x295 x296 x297 x298 x299 x300 x301 x302 x303 x304 x305 x306 x307 x308 x309 x310 x311 x312 x313 x314 x315 x316 x317 x318 x319 x320 x321 x322 x323 x324 x325 : Value}
    (BQ : Hid (Box w0 A6 #[.bool q.neg, .slice q1 q.num.length j1, .slice q2 q.den.length j2] 26)) (FQ : Hid (IsF w0 (.agg #[.bool q.neg, .slice q1 q.num.length j1, .slice q2 q.den.length j2]) q))
    (hQ : ∀ (w10 : World) (y7 y81 y82 y83 y84 y85 y86 y87 y88 y89 y90 y91 y92 y93 y94 y95 y96 y97 y98 y99 y100 y101 y102 y103 y104 y105 y106 y107 y108 y109 y110 y111 y112 y113 y114 y115 y116 y117 y118 y119 y120 y121 y122 y123 y124 y125 y126 y127 y128 y129 y130 y131 y132 y133 y134 y135 y136 y137 y138 y139 y140 y141 y142 y143 y144 : Value), IsOdd w10 y7 (oddR q) → Below w0.heap.size w0 w10 → Q .normal ⟨[x0, x1, x2, x3, x4, x5, .pointer (some ⟨A6, 0, none⟩), y7, x8, x9, x10, x11, x12, x13, x14, x15, x16, x17, x18, x19, x20, x21, x22, x23, x24, x25, x26, x27, x28, x29, x30, x31, x32, x33, x34, x35, x36, x37, x38, x39, x40, x41, x42, x43, x44, x45, x46, x47, x48, x49, x50, x51, x52, x53, x54, x55, x56, x57, x58, x59, x60, x61, x62, x63, x64, x65, x66, x67, x68, x69, x70, x71, x72, x73, x74, x75, x76, x77, x78, x79, x80, y81, y82, y83, y84, y85, y86, y87, y88, y89, y90, y91, y92, y93, y94, y95, y96, y97, y98, y99, y100, y101, y102, y103, y104, y105, y106, y107, y108, y109, y110, y111, y112, y113, y114, y115, y116, y117, y118, y119, y120, y121, y122, y123, y124, y125, y126, y127, y128, y129, y130, y131, y132, y133, y134, y135, y136, y137, y138, y139, y140, y141, y142, y143, y144, x145, x146, x147, x148, x149, x150, x151, x152, x153, x154, x155, x156, x157, x158, x159, x160, x161, x162, x163, x164, x165, x166, x167, x168, x169, x170, x171, x172, x173, x174, x175, x176, x177, x178, x179, x180, x181, x182, x183, x184, x185, x186, x187, x188, x189, x190, x191, x192, x193, x194, x195, x196, x197, x198, x199, x200, x201, x202, x203, x204, x205, x206, x207, x208, x209, x210, x211, x212, x213, x214, x215, x216, x217, x218, x219, x220, x221, x222, x223, x224, x225, x226, x227, x228, x229, x230, x231, x232, x233, x234, x235, x236, x237, x238, x239, x240, x241, x242, x243, x244, x245, x246, x247, x248, x249, x250, x251, x252, x253, x254, x255, x256, x257, x258, x259, x260, x261, x262, x263, x264, x265, x266, x267, x268, x269, x270, x271, x272, x273, x274, x275, x276, x277, x278, x279, x280, x281, x282, x283, x284, x285, x286, x287, x288, x289, x290, x291, x292, x293, x294, x295, x296, x297, x298, x299, x300, x301, x302, x303, x304, x305, x306, x307, x308, x309, x310, x311, x312, x313, x314, x315, x316, x317, x318, x319, x320, x321, x322, x323, x324, x325].toArray, []⟩ w10) :
    (Code.region 10 ops true).wp Try.prog Q ⟨[x0, x1, x2, x3, x4, x5, .pointer (some ⟨A6, 0, none⟩), x7, x8, x9, x10, x11, x12, x13, x14, x15, x16, x17, x18, x19, x20, x21, x22, x23, x24, x25, x26, x27, x28, x29, x30, x31, x32, x33, x34, x35, x36, x37, x38, x39, x40, x41, x42, x43, x44, x45, x46, x47, x48, x49, x50, x51, x52, x53, x54, x55, x56, x57, x58, x59, x60, x61, x62, x63, x64, x65, x66, x67, x68, x69, x70, x71, x72, x73, x74, x75, x76, x77, x78, x79, x80, x81, x82, x83, x84, x85, x86, x87, x88, x89, x90, x91, x92, x93, x94, x95, x96, x97, x98, x99, x100, x101, x102, x103, x104, x105, x106, x107, x108, x109, x110, x111, x112, x113, x114, x115, x116, x117, x118, x119, x120, x121, x122, x123, x124, x125, x126, x127, x128, x129, x130, x131, x132, x133, x134, x135, x136, x137, x138, x139, x140, x141, x142, x143, x144, x145, x146, x147, x148, x149, x150, x151, x152, x153, x154, x155, x156, x157, x158, x159, x160, x161, x162, x163, x164, x165, x166, x167, x168, x169, x170, x171, x172, x173, x174, x175, x176, x177, x178, x179, x180, x181, x182, x183, x184, x185, x186, x187, x188, x189, x190, x191, x192, x193, x194, x195, x196, x197, x198, x199, x200, x201, x202, x203, x204, x205, x206, x207, x208, x209, x210, x211, x212, x213, x214, x215, x216, x217, x218, x219, x220, x221, x222, x223, x224, x225, x226, x227, x228, x229, x230, x231, x232, x233, x234, x235, x236, x237, x238, x239, x240, x241, x242, x243, x244, x245, x246, x247, x248, x249, x250, x251, x252, x253, x254, x255, x256, x257, x258, x259, x260, x261, x262, x263, x264, x265, x266, x267, x268, x269, x270, x271, x272, x273, x274, x275, x276, x277, x278, x279, x280, x281, x282, x283, x284, x285, x286, x287, x288, x289, x290, x291, x292, x293, x294, x295, x296, x297, x298, x299, x300, x301, x302, x303, x304, x305, x306, x307, x308, x309, x310, x311, x312, x313, x314, x315, x316, x317, x318, x319, x320, x321, x322, x323, x324, x325].toArray, []⟩ w0 := by
  simp only [Try.f3, Option.bind_some, regOf] at hops
  replace hops := Option.some.inj hops
  subst hops
  replace hQ := Lib.hid hQ
  have hmk17 : ∀ W : World, (Instr.makeSlice 22 (.int .i64 17) (.int .i64 17)).run Try.prog W = .ok (.slice (some ⟨W.heap.size, 0, none⟩) 17 17) (W.alloc (.cells #[.int .i64 0, .int .i64 0, .int .i64 0, .int .i64 0, .int .i64 0, .int .i64 0, .int .i64 0, .int .i64 0, .int .i64 0, .int .i64 0, .int .i64 0, .int .i64 0, .int .i64 0, .int .i64 0, .int .i64 0, .int .i64 0, .int .i64 0] 3)) := by
    intro W
    have h := run_make_row' (P := Try.prog) 22 3 (.int .i64 0) 8 Try.underlying22 (by kernel_rfl) rfl .i64 .i64 17 (by omega) (by omega) W
    rw [show madeCells #[Value.int .i64 0] 17 = #[.int .i64 0, .int .i64 0, .int .i64 0, .int .i64 0, .int .i64 0, .int .i64 0, .int .i64 0, .int .i64 0, .int .i64 0, .int .i64 0, .int .i64 0, .int .i64 0, .int .i64 0, .int .i64 0, .int .i64 0, .int .i64 0, .int .i64 0] from by kernel_rfl] at h
    exact h
  refine wp_region_gj (J := GJ _ (SS 999 (fun κ => match κ with | 0 => (.eq (.agg #[.slice none 0 0, .slice none 0 0, .bool false, .slice none 0 0, .slice none 0 0, .bool false, .slice none 0 0, .slice none 0 0])) | 1 => (kI ([0])) | 2 => (.eq (.agg #[.bool q.neg, .slice q1 q.num.length j1, .slice q2 q.den.length j2])) | 3 => (.eq (.agg #[.bool q.neg, .slice q1 q.num.length j1, .slice q2 q.den.length j2])) | 4 => (kR (⟨[0], [], q, q⟩)) | 5 => (kI ([0])) | 6 => (kI ([1])) | 7 => (.eq (.agg #[.bool q.neg, .slice q1 q.num.length j1, .slice q2 q.den.length j2])) | 8 => (kR (⟨[0], [1], q, F0⟩)) | 9 => (kI ([0])) | 10 => (kI ([1])) | 11 => (.eq (.agg #[.bool q.neg, .slice q1 q.num.length j1, .slice q2 q.den.length j2])) | 12 => (kR (⟨[0], [1], F0, q⟩)) | 13 => (kI ([16])) | 14 => (kI ([1])) | 15 => (.eq (.agg #[.bool q.neg, .slice q1 q.num.length j1, .slice q2 q.den.length j2])) | 16 => (.eq (.agg #[.bool q.neg, .slice q1 q.num.length j1, .slice q2 q.den.length j2])) | 17 => (kR (⟨[16], [1], q, q⟩)) | 18 => (kI ([-1])) | 19 => (kI ([1])) | 20 => (.eq (.agg #[.bool q.neg, .slice q1 q.num.length j1, .slice q2 q.den.length j2])) | 21 => (.eq (.agg #[.bool q.neg, .slice q1 q.num.length j1, .slice q2 q.den.length j2])) | 22 => (kR (⟨[-1], [1], q, q⟩)) | 23 => (kI ([3, 3])) | 24 => (kI ([2])) | 25 => (.eq (.agg #[.bool q.neg, .slice q1 q.num.length j1, .slice q2 q.den.length j2])) | 26 => (.eq (.agg #[.bool q.neg, .slice q1 q.num.length j1, .slice q2 q.den.length j2])) | 27 => (kR (⟨[3, 3], [2], q, q⟩)) | 28 => (kI ([0])) | 29 => (kI ([0, 1])) | 30 => (.eq (.agg #[.bool q.neg, .slice q1 q.num.length j1, .slice q2 q.den.length j2])) | 31 => (.eq (.agg #[.bool q.neg, .slice q1 q.num.length j1, .slice q2 q.den.length j2])) | 32 => (kR (⟨[0], [0, 1], q, q⟩)) | 33 => (kI ([0])) | 34 => (kI ([2, -1])) | 35 => (.eq (.agg #[.bool q.neg, .slice q1 q.num.length j1, .slice q2 q.den.length j2])) | 36 => (.eq (.agg #[.bool q.neg, .slice q1 q.num.length j1, .slice q2 q.den.length j2])) | 37 => (kR (⟨[0], [2, -1], q, q⟩)) | 38 => (kI ([0, 1])) | 39 => (kI ([1])) | 40 => (.eq (.agg #[.bool q.neg, .slice q1 q.num.length j1, .slice q2 q.den.length j2])) | 41 => (.eq (.agg #[.bool q.neg, .slice q1 q.num.length j1, .slice q2 q.den.length j2])) | 42 => (kR (⟨[0, 1], [1], q, q⟩)) | 43 => (kI (List.replicate 17 0)) | 44 => (kI ([17])) | 45 => (.eq (.agg #[.bool q.neg, .slice q1 q.num.length j1, .slice q2 q.den.length j2])) | 46 => (.eq (.agg #[.bool q.neg, .slice q1 q.num.length j1, .slice q2 q.den.length j2])) | 47 => (kR (⟨List.replicate 17 0, [17], q, q⟩)) | 48 => (kI ([0])) | 49 => (kI ([1])) | 50 => (kF (fr false 5 4)) | 51 => (.eq (.agg #[.bool q.neg, .slice q1 q.num.length j1, .slice q2 q.den.length j2])) | 52 => (kR (⟨[0], [1], fr false 5 4, q⟩)) | 53 => (kI ([0])) | 54 => (kI ([1])) | 55 => (kF (fr false 1 1001)) | 56 => (.eq (.agg #[.bool q.neg, .slice q1 q.num.length j1, .slice q2 q.den.length j2])) | 57 => (kR (⟨[0], [1], fr false 1 1001, q⟩)) | 58 => (kI ([0])) | 59 => (kI ([1])) | 60 => (.eq (.agg #[.bool q.neg, .slice q1 q.num.length j1, .slice q2 q.den.length j2])) | 61 => (kF (fr true 1 4)) | 62 => (kR (⟨[0], [1], q, fr true 1 4⟩)) | 63 => (kO (oddR q)) | 64 => (kO (oddR q)) | _ => .any)) (CS w0 999 (fun _ => True)) _) (by kernel_rfl) ?_ ?_ (GJ.start CS.start)
  · intro listed a w9 i hr hj
    obtain ⟨hi12, hun, _, _, _⟩ := ready_mem hr
    have h12 : i ∈ List.range 65 := List.mem_range.2 hi12
    simp only [List.range, List.range.loop, List.mem_cons, List.not_mem_nil, or_false] at h12
    obtain ⟨f, ha, hcm, hf, hdo, hdi⟩ := hj.open2 [81, 82, 83, 84, 85, 86, 87, 88, 89, 90, 91, 92, 93, 94, 95, 96, 97, 98, 99, 100, 101, 102, 103, 104, 105, 106, 107, 108, 109, 110, 111, 112, 113, 114, 115, 116, 117, 118, 119, 120, 121, 122, 123, 124, 125, 126, 127, 128, 129, 130, 131, 132, 133, 134, 135, 136, 137, 138, 139, 140, 141, 142, 143, 144, 7] (by kernel_rfl) (by kernel_rfl)
    simp only [List.foldl_cons, List.foldl_nil, List.setIfInBounds_toArray, List.set_cons_zero, List.set_cons_succ] at ha
    subst ha
    replace hcm : CS w0 999 (fun _ => True) listed f w9 := hcm
    have hlsz : listed.size = 65 := hj.lsize
    rcases h12 with rfl | rfl | rfl | rfl | rfl | rfl | rfl | rfl | rfl | rfl | rfl | rfl | rfl | rfl | rfl | rfl | rfl | rfl | rfl | rfl | rfl | rfl | rfl | rfl | rfl | rfl | rfl | rfl | rfl | rfl | rfl | rfl | rfl | rfl | rfl | rfl | rfl | rfl | rfl | rfl | rfl | rfl | rfl | rfl | rfl | rfl | rfl | rfl | rfl | rfl | rfl | rfl | rfl | rfl | rfl | rfl | rfl | rfl | rfl | rfl | rfl | rfl | rfl | rfl | rfl
    · have nS : ¬ up listed 999 := not_up_ge (by rw [hlsz]; decide)
      have HCM := Lib.hid hcm; clear hcm
      refine GJ.op hj hdo hr rfl _ hdi (fun K hK => ?_)
      simp only [Act.put, List.setIfInBounds_toArray] at hK ⊢; clear hj hf hdo hdi
      go_simp
      exact hK _ _ (fun k v _ _ h => h.keep (Below.refl _ _)) (fun t ht => SS.of (.eq (.agg #[.slice none 0 0, .slice none 0 0, .bool false, .slice none 0 0, .slice none 0 0, .bool false, .slice none 0 0, .slice none 0 0])) rfl rfl) (HCM.out.keep (by decide) (fun _ _ h _ => h) (Below.refl _ _))
    · have nS : ¬ up listed 999 := not_up_ge (by rw [hlsz]; decide)
      have HCM := Lib.hid hcm; clear hcm
      refine GJ.op hj hdo hr rfl _ hdi (fun K hK => ?_)
      simp only [Act.put, List.setIfInBounds_toArray] at hK ⊢; clear hj hf hdo hdi
      go_simp
      exact hK _ _ (fun k v _ _ h => h.keep (held_alloc (Below.refl _ _))) (fun t ht => SS.of (kI ([0])) rfl (fun _ => SlI.lit (l := [0]) (Box.new _ _ _) rfl (in_lit _ (by decide)) (by decide))) (HCM.out.keep (by decide) (fun _ _ h _ => h) (held_alloc (Below.refl _ _)))
    · have nS : ¬ up listed 999 := not_up_ge (by rw [hlsz]; decide)
      have HCM := Lib.hid hcm; clear hcm
      have hcs := ((BQ.out.after HCM.out.below).cells3)
      obtain ⟨d0, d1, d2⟩ := hcs
      have dl := (BQ.out.after HCM.out.below).lt
      refine GJ.op hj hdo hr rfl _ hdi (fun K hK => ?_)
      simp only [Act.put, List.setIfInBounds_toArray] at hK ⊢; clear hj hf hdo hdi
      go_simp
      exact hK _ _ (fun k v _ _ h => h.keep (Below.refl _ _)) (fun t ht => SS.of (.eq (.agg #[.bool q.neg, .slice q1 q.num.length j1, .slice q2 q.den.length j2])) rfl rfl) (HCM.out.keep (by decide) (fun _ _ h _ => h) (Below.refl _ _))
    · have nS : ¬ up listed 999 := not_up_ge (by rw [hlsz]; decide)
      have HCM := Lib.hid hcm; clear hcm
      have hcs := ((BQ.out.after HCM.out.below).cells3)
      obtain ⟨d0, d1, d2⟩ := hcs
      have dl := (BQ.out.after HCM.out.below).lt
      refine GJ.op hj hdo hr rfl _ hdi (fun K hK => ?_)
      simp only [Act.put, List.setIfInBounds_toArray] at hK ⊢; clear hj hf hdo hdi
      go_simp
      exact hK _ _ (fun k v _ _ h => h.keep (Below.refl _ _)) (fun t ht => SS.of (.eq (.agg #[.bool q.neg, .slice q1 q.num.length j1, .slice q2 q.den.length j2])) rfl rfl) (HCM.out.keep (by decide) (fun _ _ h _ => h) (Below.refl _ _))
    · have nS : ¬ up listed 999 := not_up_ge (by rw [hlsz]; decide)
      have s1 : SlI w9 (f 82) ([0]) := (hf 1 _ _ rfl rfl (up_dep hr (by kernel_rfl))) nS
      have e2 : f 83 = .agg #[.bool q.neg, .slice q1 q.num.length j1, .slice q2 q.den.length j2] := hf 2 _ _ rfl rfl (up_dep hr (by kernel_rfl))
      have e3 : f 84 = .agg #[.bool q.neg, .slice q1 q.num.length j1, .slice q2 q.den.length j2] := hf 3 _ _ rfl rfl (up_dep hr (by kernel_rfl))
      have HCM := Lib.hid hcm; clear hcm
      obtain ⟨ph, ch, z1, _, _, _⟩ := s1.shape
      have hq := (FQ.out.after HCM.out.below).parts3
      refine GJ.op hj hdo hr rfl _ hdi (fun K hK => ?_)
      simp only [Act.put, List.setIfInBounds_toArray] at hK ⊢; clear hj hf hdo hdi
      rw [e2, e3] at hK ⊢; clear e2 e3
      rw [z1] at hK s1 ⊢
      go_simp
      exact hK _ _ (fun k v _ _ h => h.keep (Below.refl _ _)) (fun t ht => SS.of (kR (⟨[0], [], q, q⟩)) rfl (fun _ => IsR.mk s1 (SlI.nil _) hq.2.1 hq.2.2 hq.2.1 hq.2.2)) (HCM.out.keep (by decide) (fun _ _ h _ => h) (Below.refl _ _))
    · have nS : ¬ up listed 999 := not_up_ge (by rw [hlsz]; decide)
      have HCM := Lib.hid hcm; clear hcm
      refine GJ.op hj hdo hr rfl _ hdi (fun K hK => ?_)
      simp only [Act.put, List.setIfInBounds_toArray] at hK ⊢; clear hj hf hdo hdi
      go_simp
      exact hK _ _ (fun k v _ _ h => h.keep (held_alloc (Below.refl _ _))) (fun t ht => SS.of (kI ([0])) rfl (fun _ => SlI.lit (l := [0]) (Box.new _ _ _) rfl (in_lit _ (by decide)) (by decide))) (HCM.out.keep (by decide) (fun _ _ h _ => h) (held_alloc (Below.refl _ _)))
    · have nS : ¬ up listed 999 := not_up_ge (by rw [hlsz]; decide)
      have HCM := Lib.hid hcm; clear hcm
      refine GJ.op hj hdo hr rfl _ hdi (fun K hK => ?_)
      simp only [Act.put, List.setIfInBounds_toArray] at hK ⊢; clear hj hf hdo hdi
      go_simp
      exact hK _ _ (fun k v _ _ h => h.keep (held_alloc (Below.refl _ _))) (fun t ht => SS.of (kI ([1])) rfl (fun _ => SlI.lit (l := [1]) (Box.new _ _ _) rfl (in_lit _ (by decide)) (by decide))) (HCM.out.keep (by decide) (fun _ _ h _ => h) (held_alloc (Below.refl _ _)))
    · have nS : ¬ up listed 999 := not_up_ge (by rw [hlsz]; decide)
      have HCM := Lib.hid hcm; clear hcm
      have hcs := ((BQ.out.after HCM.out.below).cells3)
      obtain ⟨d0, d1, d2⟩ := hcs
      have dl := (BQ.out.after HCM.out.below).lt
      refine GJ.op hj hdo hr rfl _ hdi (fun K hK => ?_)
      simp only [Act.put, List.setIfInBounds_toArray] at hK ⊢; clear hj hf hdo hdi
      go_simp
      exact hK _ _ (fun k v _ _ h => h.keep (Below.refl _ _)) (fun t ht => SS.of (.eq (.agg #[.bool q.neg, .slice q1 q.num.length j1, .slice q2 q.den.length j2])) rfl rfl) (HCM.out.keep (by decide) (fun _ _ h _ => h) (Below.refl _ _))
    · have nS : ¬ up listed 999 := not_up_ge (by rw [hlsz]; decide)
      have s1 : SlI w9 (f 86) ([0]) := (hf 5 _ _ rfl rfl (up_dep hr (by kernel_rfl))) nS
      have s2 : SlI w9 (f 87) ([1]) := (hf 6 _ _ rfl rfl (up_dep hr (by kernel_rfl))) nS
      have e3 : f 88 = .agg #[.bool q.neg, .slice q1 q.num.length j1, .slice q2 q.den.length j2] := hf 7 _ _ rfl rfl (up_dep hr (by kernel_rfl))
      have HCM := Lib.hid hcm; clear hcm
      obtain ⟨ph, ch, z1, _, _, _⟩ := s1.shape
      obtain ⟨pw, cw, z2, _, _, _⟩ := s2.shape
      have hq := (FQ.out.after HCM.out.below).parts3
      refine GJ.op hj hdo hr rfl _ hdi (fun K hK => ?_)
      simp only [Act.put, List.setIfInBounds_toArray] at hK ⊢; clear hj hf hdo hdi
      rw [e3] at hK ⊢; clear e3
      rw [z1] at hK s1 ⊢
      rw [z2] at hK s2 ⊢
      go_simp
      exact hK _ _ (fun k v _ _ h => h.keep (Below.refl _ _)) (fun t ht => SS.of (kR (⟨[0], [1], q, F0⟩)) rfl (fun _ => IsR.mk s1 s2 hq.2.1 hq.2.2 (sl_f0 _).1 (sl_f0 _).2)) (HCM.out.keep (by decide) (fun _ _ h _ => h) (Below.refl _ _))
    · have nS : ¬ up listed 999 := not_up_ge (by rw [hlsz]; decide)
      have HCM := Lib.hid hcm; clear hcm
      refine GJ.op hj hdo hr rfl _ hdi (fun K hK => ?_)
      simp only [Act.put, List.setIfInBounds_toArray] at hK ⊢; clear hj hf hdo hdi
      go_simp
      exact hK _ _ (fun k v _ _ h => h.keep (held_alloc (Below.refl _ _))) (fun t ht => SS.of (kI ([0])) rfl (fun _ => SlI.lit (l := [0]) (Box.new _ _ _) rfl (in_lit _ (by decide)) (by decide))) (HCM.out.keep (by decide) (fun _ _ h _ => h) (held_alloc (Below.refl _ _)))
    · have nS : ¬ up listed 999 := not_up_ge (by rw [hlsz]; decide)
      have HCM := Lib.hid hcm; clear hcm
      refine GJ.op hj hdo hr rfl _ hdi (fun K hK => ?_)
      simp only [Act.put, List.setIfInBounds_toArray] at hK ⊢; clear hj hf hdo hdi
      go_simp
      exact hK _ _ (fun k v _ _ h => h.keep (held_alloc (Below.refl _ _))) (fun t ht => SS.of (kI ([1])) rfl (fun _ => SlI.lit (l := [1]) (Box.new _ _ _) rfl (in_lit _ (by decide)) (by decide))) (HCM.out.keep (by decide) (fun _ _ h _ => h) (held_alloc (Below.refl _ _)))
    · have nS : ¬ up listed 999 := not_up_ge (by rw [hlsz]; decide)
      have HCM := Lib.hid hcm; clear hcm
      have hcs := ((BQ.out.after HCM.out.below).cells3)
      obtain ⟨d0, d1, d2⟩ := hcs
      have dl := (BQ.out.after HCM.out.below).lt
      refine GJ.op hj hdo hr rfl _ hdi (fun K hK => ?_)
      simp only [Act.put, List.setIfInBounds_toArray] at hK ⊢; clear hj hf hdo hdi
      go_simp
      exact hK _ _ (fun k v _ _ h => h.keep (Below.refl _ _)) (fun t ht => SS.of (.eq (.agg #[.bool q.neg, .slice q1 q.num.length j1, .slice q2 q.den.length j2])) rfl rfl) (HCM.out.keep (by decide) (fun _ _ h _ => h) (Below.refl _ _))
    · have nS : ¬ up listed 999 := not_up_ge (by rw [hlsz]; decide)
      have s1 : SlI w9 (f 90) ([0]) := (hf 9 _ _ rfl rfl (up_dep hr (by kernel_rfl))) nS
      have s2 : SlI w9 (f 91) ([1]) := (hf 10 _ _ rfl rfl (up_dep hr (by kernel_rfl))) nS
      have e3 : f 92 = .agg #[.bool q.neg, .slice q1 q.num.length j1, .slice q2 q.den.length j2] := hf 11 _ _ rfl rfl (up_dep hr (by kernel_rfl))
      have HCM := Lib.hid hcm; clear hcm
      obtain ⟨ph, ch, z1, _, _, _⟩ := s1.shape
      obtain ⟨pw, cw, z2, _, _, _⟩ := s2.shape
      have hq := (FQ.out.after HCM.out.below).parts3
      refine GJ.op hj hdo hr rfl _ hdi (fun K hK => ?_)
      simp only [Act.put, List.setIfInBounds_toArray] at hK ⊢; clear hj hf hdo hdi
      rw [e3] at hK ⊢; clear e3
      rw [z1] at hK s1 ⊢
      rw [z2] at hK s2 ⊢
      go_simp
      exact hK _ _ (fun k v _ _ h => h.keep (Below.refl _ _)) (fun t ht => SS.of (kR (⟨[0], [1], F0, q⟩)) rfl (fun _ => IsR.mk s1 s2 (sl_f0 _).1 (sl_f0 _).2 hq.2.1 hq.2.2)) (HCM.out.keep (by decide) (fun _ _ h _ => h) (Below.refl _ _))
    · have nS : ¬ up listed 999 := not_up_ge (by rw [hlsz]; decide)
      have HCM := Lib.hid hcm; clear hcm
      refine GJ.op hj hdo hr rfl _ hdi (fun K hK => ?_)
      simp only [Act.put, List.setIfInBounds_toArray] at hK ⊢; clear hj hf hdo hdi
      go_simp
      exact hK _ _ (fun k v _ _ h => h.keep (held_alloc (Below.refl _ _))) (fun t ht => SS.of (kI ([16])) rfl (fun _ => SlI.lit (l := [16]) (Box.new _ _ _) rfl (in_lit _ (by decide)) (by decide))) (HCM.out.keep (by decide) (fun _ _ h _ => h) (held_alloc (Below.refl _ _)))
    · have nS : ¬ up listed 999 := not_up_ge (by rw [hlsz]; decide)
      have HCM := Lib.hid hcm; clear hcm
      refine GJ.op hj hdo hr rfl _ hdi (fun K hK => ?_)
      simp only [Act.put, List.setIfInBounds_toArray] at hK ⊢; clear hj hf hdo hdi
      go_simp
      exact hK _ _ (fun k v _ _ h => h.keep (held_alloc (Below.refl _ _))) (fun t ht => SS.of (kI ([1])) rfl (fun _ => SlI.lit (l := [1]) (Box.new _ _ _) rfl (in_lit _ (by decide)) (by decide))) (HCM.out.keep (by decide) (fun _ _ h _ => h) (held_alloc (Below.refl _ _)))
    · have nS : ¬ up listed 999 := not_up_ge (by rw [hlsz]; decide)
      have HCM := Lib.hid hcm; clear hcm
      have hcs := ((BQ.out.after HCM.out.below).cells3)
      obtain ⟨d0, d1, d2⟩ := hcs
      have dl := (BQ.out.after HCM.out.below).lt
      refine GJ.op hj hdo hr rfl _ hdi (fun K hK => ?_)
      simp only [Act.put, List.setIfInBounds_toArray] at hK ⊢; clear hj hf hdo hdi
      go_simp
      exact hK _ _ (fun k v _ _ h => h.keep (Below.refl _ _)) (fun t ht => SS.of (.eq (.agg #[.bool q.neg, .slice q1 q.num.length j1, .slice q2 q.den.length j2])) rfl rfl) (HCM.out.keep (by decide) (fun _ _ h _ => h) (Below.refl _ _))
    · have nS : ¬ up listed 999 := not_up_ge (by rw [hlsz]; decide)
      have HCM := Lib.hid hcm; clear hcm
      have hcs := ((BQ.out.after HCM.out.below).cells3)
      obtain ⟨d0, d1, d2⟩ := hcs
      have dl := (BQ.out.after HCM.out.below).lt
      refine GJ.op hj hdo hr rfl _ hdi (fun K hK => ?_)
      simp only [Act.put, List.setIfInBounds_toArray] at hK ⊢; clear hj hf hdo hdi
      go_simp
      exact hK _ _ (fun k v _ _ h => h.keep (Below.refl _ _)) (fun t ht => SS.of (.eq (.agg #[.bool q.neg, .slice q1 q.num.length j1, .slice q2 q.den.length j2])) rfl rfl) (HCM.out.keep (by decide) (fun _ _ h _ => h) (Below.refl _ _))
    · have nS : ¬ up listed 999 := not_up_ge (by rw [hlsz]; decide)
      have s1 : SlI w9 (f 94) ([16]) := (hf 13 _ _ rfl rfl (up_dep hr (by kernel_rfl))) nS
      have s2 : SlI w9 (f 95) ([1]) := (hf 14 _ _ rfl rfl (up_dep hr (by kernel_rfl))) nS
      have e3 : f 96 = .agg #[.bool q.neg, .slice q1 q.num.length j1, .slice q2 q.den.length j2] := hf 15 _ _ rfl rfl (up_dep hr (by kernel_rfl))
      have e4 : f 97 = .agg #[.bool q.neg, .slice q1 q.num.length j1, .slice q2 q.den.length j2] := hf 16 _ _ rfl rfl (up_dep hr (by kernel_rfl))
      have HCM := Lib.hid hcm; clear hcm
      obtain ⟨ph, ch, z1, _, _, _⟩ := s1.shape
      obtain ⟨pw, cw, z2, _, _, _⟩ := s2.shape
      have hq := (FQ.out.after HCM.out.below).parts3
      refine GJ.op hj hdo hr rfl _ hdi (fun K hK => ?_)
      simp only [Act.put, List.setIfInBounds_toArray] at hK ⊢; clear hj hf hdo hdi
      rw [e3, e4] at hK ⊢; clear e3 e4
      rw [z1] at hK s1 ⊢
      rw [z2] at hK s2 ⊢
      go_simp
      exact hK _ _ (fun k v _ _ h => h.keep (Below.refl _ _)) (fun t ht => SS.of (kR (⟨[16], [1], q, q⟩)) rfl (fun _ => IsR.mk s1 s2 hq.2.1 hq.2.2 hq.2.1 hq.2.2)) (HCM.out.keep (by decide) (fun _ _ h _ => h) (Below.refl _ _))
    · have nS : ¬ up listed 999 := not_up_ge (by rw [hlsz]; decide)
      have HCM := Lib.hid hcm; clear hcm
      refine GJ.op hj hdo hr rfl _ hdi (fun K hK => ?_)
      simp only [Act.put, List.setIfInBounds_toArray] at hK ⊢; clear hj hf hdo hdi
      go_simp
      exact hK _ _ (fun k v _ _ h => h.keep (held_alloc (Below.refl _ _))) (fun t ht => SS.of (kI ([-1])) rfl (fun _ => SlI.lit (l := [-1]) (Box.new _ _ _) rfl (in_lit _ (by decide)) (by decide))) (HCM.out.keep (by decide) (fun _ _ h _ => h) (held_alloc (Below.refl _ _)))
    · have nS : ¬ up listed 999 := not_up_ge (by rw [hlsz]; decide)
      have HCM := Lib.hid hcm; clear hcm
      refine GJ.op hj hdo hr rfl _ hdi (fun K hK => ?_)
      simp only [Act.put, List.setIfInBounds_toArray] at hK ⊢; clear hj hf hdo hdi
      go_simp
      exact hK _ _ (fun k v _ _ h => h.keep (held_alloc (Below.refl _ _))) (fun t ht => SS.of (kI ([1])) rfl (fun _ => SlI.lit (l := [1]) (Box.new _ _ _) rfl (in_lit _ (by decide)) (by decide))) (HCM.out.keep (by decide) (fun _ _ h _ => h) (held_alloc (Below.refl _ _)))
    · have nS : ¬ up listed 999 := not_up_ge (by rw [hlsz]; decide)
      have HCM := Lib.hid hcm; clear hcm
      have hcs := ((BQ.out.after HCM.out.below).cells3)
      obtain ⟨d0, d1, d2⟩ := hcs
      have dl := (BQ.out.after HCM.out.below).lt
      refine GJ.op hj hdo hr rfl _ hdi (fun K hK => ?_)
      simp only [Act.put, List.setIfInBounds_toArray] at hK ⊢; clear hj hf hdo hdi
      go_simp
      exact hK _ _ (fun k v _ _ h => h.keep (Below.refl _ _)) (fun t ht => SS.of (.eq (.agg #[.bool q.neg, .slice q1 q.num.length j1, .slice q2 q.den.length j2])) rfl rfl) (HCM.out.keep (by decide) (fun _ _ h _ => h) (Below.refl _ _))
    · have nS : ¬ up listed 999 := not_up_ge (by rw [hlsz]; decide)
      have HCM := Lib.hid hcm; clear hcm
      have hcs := ((BQ.out.after HCM.out.below).cells3)
      obtain ⟨d0, d1, d2⟩ := hcs
      have dl := (BQ.out.after HCM.out.below).lt
      refine GJ.op hj hdo hr rfl _ hdi (fun K hK => ?_)
      simp only [Act.put, List.setIfInBounds_toArray] at hK ⊢; clear hj hf hdo hdi
      go_simp
      exact hK _ _ (fun k v _ _ h => h.keep (Below.refl _ _)) (fun t ht => SS.of (.eq (.agg #[.bool q.neg, .slice q1 q.num.length j1, .slice q2 q.den.length j2])) rfl rfl) (HCM.out.keep (by decide) (fun _ _ h _ => h) (Below.refl _ _))
    · have nS : ¬ up listed 999 := not_up_ge (by rw [hlsz]; decide)
      have s1 : SlI w9 (f 99) ([-1]) := (hf 18 _ _ rfl rfl (up_dep hr (by kernel_rfl))) nS
      have s2 : SlI w9 (f 100) ([1]) := (hf 19 _ _ rfl rfl (up_dep hr (by kernel_rfl))) nS
      have e3 : f 101 = .agg #[.bool q.neg, .slice q1 q.num.length j1, .slice q2 q.den.length j2] := hf 20 _ _ rfl rfl (up_dep hr (by kernel_rfl))
      have e4 : f 102 = .agg #[.bool q.neg, .slice q1 q.num.length j1, .slice q2 q.den.length j2] := hf 21 _ _ rfl rfl (up_dep hr (by kernel_rfl))
      have HCM := Lib.hid hcm; clear hcm
      obtain ⟨ph, ch, z1, _, _, _⟩ := s1.shape
      obtain ⟨pw, cw, z2, _, _, _⟩ := s2.shape
      have hq := (FQ.out.after HCM.out.below).parts3
      refine GJ.op hj hdo hr rfl _ hdi (fun K hK => ?_)
      simp only [Act.put, List.setIfInBounds_toArray] at hK ⊢; clear hj hf hdo hdi
      rw [e3, e4] at hK ⊢; clear e3 e4
      rw [z1] at hK s1 ⊢
      rw [z2] at hK s2 ⊢
      go_simp
      exact hK _ _ (fun k v _ _ h => h.keep (Below.refl _ _)) (fun t ht => SS.of (kR (⟨[-1], [1], q, q⟩)) rfl (fun _ => IsR.mk s1 s2 hq.2.1 hq.2.2 hq.2.1 hq.2.2)) (HCM.out.keep (by decide) (fun _ _ h _ => h) (Below.refl _ _))
    · have nS : ¬ up listed 999 := not_up_ge (by rw [hlsz]; decide)
      have HCM := Lib.hid hcm; clear hcm
      refine GJ.op hj hdo hr rfl _ hdi (fun K hK => ?_)
      simp only [Act.put, List.setIfInBounds_toArray] at hK ⊢; clear hj hf hdo hdi
      go_simp
      exact hK _ _ (fun k v _ _ h => h.keep (held_alloc (Below.refl _ _))) (fun t ht => SS.of (kI ([3, 3])) rfl (fun _ => SlI.lit (l := [3, 3]) (Box.new _ _ _) rfl (in_lit _ (by decide)) (by decide))) (HCM.out.keep (by decide) (fun _ _ h _ => h) (held_alloc (Below.refl _ _)))
    · have nS : ¬ up listed 999 := not_up_ge (by rw [hlsz]; decide)
      have HCM := Lib.hid hcm; clear hcm
      refine GJ.op hj hdo hr rfl _ hdi (fun K hK => ?_)
      simp only [Act.put, List.setIfInBounds_toArray] at hK ⊢; clear hj hf hdo hdi
      go_simp
      exact hK _ _ (fun k v _ _ h => h.keep (held_alloc (Below.refl _ _))) (fun t ht => SS.of (kI ([2])) rfl (fun _ => SlI.lit (l := [2]) (Box.new _ _ _) rfl (in_lit _ (by decide)) (by decide))) (HCM.out.keep (by decide) (fun _ _ h _ => h) (held_alloc (Below.refl _ _)))
    · have nS : ¬ up listed 999 := not_up_ge (by rw [hlsz]; decide)
      have HCM := Lib.hid hcm; clear hcm
      have hcs := ((BQ.out.after HCM.out.below).cells3)
      obtain ⟨d0, d1, d2⟩ := hcs
      have dl := (BQ.out.after HCM.out.below).lt
      refine GJ.op hj hdo hr rfl _ hdi (fun K hK => ?_)
      simp only [Act.put, List.setIfInBounds_toArray] at hK ⊢; clear hj hf hdo hdi
      go_simp
      exact hK _ _ (fun k v _ _ h => h.keep (Below.refl _ _)) (fun t ht => SS.of (.eq (.agg #[.bool q.neg, .slice q1 q.num.length j1, .slice q2 q.den.length j2])) rfl rfl) (HCM.out.keep (by decide) (fun _ _ h _ => h) (Below.refl _ _))
    · have nS : ¬ up listed 999 := not_up_ge (by rw [hlsz]; decide)
      have HCM := Lib.hid hcm; clear hcm
      have hcs := ((BQ.out.after HCM.out.below).cells3)
      obtain ⟨d0, d1, d2⟩ := hcs
      have dl := (BQ.out.after HCM.out.below).lt
      refine GJ.op hj hdo hr rfl _ hdi (fun K hK => ?_)
      simp only [Act.put, List.setIfInBounds_toArray] at hK ⊢; clear hj hf hdo hdi
      go_simp
      exact hK _ _ (fun k v _ _ h => h.keep (Below.refl _ _)) (fun t ht => SS.of (.eq (.agg #[.bool q.neg, .slice q1 q.num.length j1, .slice q2 q.den.length j2])) rfl rfl) (HCM.out.keep (by decide) (fun _ _ h _ => h) (Below.refl _ _))
    · have nS : ¬ up listed 999 := not_up_ge (by rw [hlsz]; decide)
      have s1 : SlI w9 (f 104) ([3, 3]) := (hf 23 _ _ rfl rfl (up_dep hr (by kernel_rfl))) nS
      have s2 : SlI w9 (f 105) ([2]) := (hf 24 _ _ rfl rfl (up_dep hr (by kernel_rfl))) nS
      have e3 : f 106 = .agg #[.bool q.neg, .slice q1 q.num.length j1, .slice q2 q.den.length j2] := hf 25 _ _ rfl rfl (up_dep hr (by kernel_rfl))
      have e4 : f 107 = .agg #[.bool q.neg, .slice q1 q.num.length j1, .slice q2 q.den.length j2] := hf 26 _ _ rfl rfl (up_dep hr (by kernel_rfl))
      have HCM := Lib.hid hcm; clear hcm
      obtain ⟨ph, ch, z1, _, _, _⟩ := s1.shape
      obtain ⟨pw, cw, z2, _, _, _⟩ := s2.shape
      have hq := (FQ.out.after HCM.out.below).parts3
      refine GJ.op hj hdo hr rfl _ hdi (fun K hK => ?_)
      simp only [Act.put, List.setIfInBounds_toArray] at hK ⊢; clear hj hf hdo hdi
      rw [e3, e4] at hK ⊢; clear e3 e4
      rw [z1] at hK s1 ⊢
      rw [z2] at hK s2 ⊢
      go_simp
      exact hK _ _ (fun k v _ _ h => h.keep (Below.refl _ _)) (fun t ht => SS.of (kR (⟨[3, 3], [2], q, q⟩)) rfl (fun _ => IsR.mk s1 s2 hq.2.1 hq.2.2 hq.2.1 hq.2.2)) (HCM.out.keep (by decide) (fun _ _ h _ => h) (Below.refl _ _))
    · have nS : ¬ up listed 999 := not_up_ge (by rw [hlsz]; decide)
      have HCM := Lib.hid hcm; clear hcm
      refine GJ.op hj hdo hr rfl _ hdi (fun K hK => ?_)
      simp only [Act.put, List.setIfInBounds_toArray] at hK ⊢; clear hj hf hdo hdi
      go_simp
      exact hK _ _ (fun k v _ _ h => h.keep (held_alloc (Below.refl _ _))) (fun t ht => SS.of (kI ([0])) rfl (fun _ => SlI.lit (l := [0]) (Box.new _ _ _) rfl (in_lit _ (by decide)) (by decide))) (HCM.out.keep (by decide) (fun _ _ h _ => h) (held_alloc (Below.refl _ _)))
    · have nS : ¬ up listed 999 := not_up_ge (by rw [hlsz]; decide)
      have HCM := Lib.hid hcm; clear hcm
      refine GJ.op hj hdo hr rfl _ hdi (fun K hK => ?_)
      simp only [Act.put, List.setIfInBounds_toArray] at hK ⊢; clear hj hf hdo hdi
      go_simp
      exact hK _ _ (fun k v _ _ h => h.keep (held_alloc (Below.refl _ _))) (fun t ht => SS.of (kI ([0, 1])) rfl (fun _ => SlI.lit (l := [0, 1]) (Box.new _ _ _) rfl (in_lit _ (by decide)) (by decide))) (HCM.out.keep (by decide) (fun _ _ h _ => h) (held_alloc (Below.refl _ _)))
    · have nS : ¬ up listed 999 := not_up_ge (by rw [hlsz]; decide)
      have HCM := Lib.hid hcm; clear hcm
      have hcs := ((BQ.out.after HCM.out.below).cells3)
      obtain ⟨d0, d1, d2⟩ := hcs
      have dl := (BQ.out.after HCM.out.below).lt
      refine GJ.op hj hdo hr rfl _ hdi (fun K hK => ?_)
      simp only [Act.put, List.setIfInBounds_toArray] at hK ⊢; clear hj hf hdo hdi
      go_simp
      exact hK _ _ (fun k v _ _ h => h.keep (Below.refl _ _)) (fun t ht => SS.of (.eq (.agg #[.bool q.neg, .slice q1 q.num.length j1, .slice q2 q.den.length j2])) rfl rfl) (HCM.out.keep (by decide) (fun _ _ h _ => h) (Below.refl _ _))
    · have nS : ¬ up listed 999 := not_up_ge (by rw [hlsz]; decide)
      have HCM := Lib.hid hcm; clear hcm
      have hcs := ((BQ.out.after HCM.out.below).cells3)
      obtain ⟨d0, d1, d2⟩ := hcs
      have dl := (BQ.out.after HCM.out.below).lt
      refine GJ.op hj hdo hr rfl _ hdi (fun K hK => ?_)
      simp only [Act.put, List.setIfInBounds_toArray] at hK ⊢; clear hj hf hdo hdi
      go_simp
      exact hK _ _ (fun k v _ _ h => h.keep (Below.refl _ _)) (fun t ht => SS.of (.eq (.agg #[.bool q.neg, .slice q1 q.num.length j1, .slice q2 q.den.length j2])) rfl rfl) (HCM.out.keep (by decide) (fun _ _ h _ => h) (Below.refl _ _))
    · have nS : ¬ up listed 999 := not_up_ge (by rw [hlsz]; decide)
      have s1 : SlI w9 (f 109) ([0]) := (hf 28 _ _ rfl rfl (up_dep hr (by kernel_rfl))) nS
      have s2 : SlI w9 (f 110) ([0, 1]) := (hf 29 _ _ rfl rfl (up_dep hr (by kernel_rfl))) nS
      have e3 : f 111 = .agg #[.bool q.neg, .slice q1 q.num.length j1, .slice q2 q.den.length j2] := hf 30 _ _ rfl rfl (up_dep hr (by kernel_rfl))
      have e4 : f 112 = .agg #[.bool q.neg, .slice q1 q.num.length j1, .slice q2 q.den.length j2] := hf 31 _ _ rfl rfl (up_dep hr (by kernel_rfl))
      have HCM := Lib.hid hcm; clear hcm
      obtain ⟨ph, ch, z1, _, _, _⟩ := s1.shape
      obtain ⟨pw, cw, z2, _, _, _⟩ := s2.shape
      have hq := (FQ.out.after HCM.out.below).parts3
      refine GJ.op hj hdo hr rfl _ hdi (fun K hK => ?_)
      simp only [Act.put, List.setIfInBounds_toArray] at hK ⊢; clear hj hf hdo hdi
      rw [e3, e4] at hK ⊢; clear e3 e4
      rw [z1] at hK s1 ⊢
      rw [z2] at hK s2 ⊢
      go_simp
      exact hK _ _ (fun k v _ _ h => h.keep (Below.refl _ _)) (fun t ht => SS.of (kR (⟨[0], [0, 1], q, q⟩)) rfl (fun _ => IsR.mk s1 s2 hq.2.1 hq.2.2 hq.2.1 hq.2.2)) (HCM.out.keep (by decide) (fun _ _ h _ => h) (Below.refl _ _))
    · have nS : ¬ up listed 999 := not_up_ge (by rw [hlsz]; decide)
      have HCM := Lib.hid hcm; clear hcm
      refine GJ.op hj hdo hr rfl _ hdi (fun K hK => ?_)
      simp only [Act.put, List.setIfInBounds_toArray] at hK ⊢; clear hj hf hdo hdi
      go_simp
      exact hK _ _ (fun k v _ _ h => h.keep (held_alloc (Below.refl _ _))) (fun t ht => SS.of (kI ([0])) rfl (fun _ => SlI.lit (l := [0]) (Box.new _ _ _) rfl (in_lit _ (by decide)) (by decide))) (HCM.out.keep (by decide) (fun _ _ h _ => h) (held_alloc (Below.refl _ _)))
    · have nS : ¬ up listed 999 := not_up_ge (by rw [hlsz]; decide)
      have HCM := Lib.hid hcm; clear hcm
      refine GJ.op hj hdo hr rfl _ hdi (fun K hK => ?_)
      simp only [Act.put, List.setIfInBounds_toArray] at hK ⊢; clear hj hf hdo hdi
      go_simp
      exact hK _ _ (fun k v _ _ h => h.keep (held_alloc (Below.refl _ _))) (fun t ht => SS.of (kI ([2, -1])) rfl (fun _ => SlI.lit (l := [2, -1]) (Box.new _ _ _) rfl (in_lit _ (by decide)) (by decide))) (HCM.out.keep (by decide) (fun _ _ h _ => h) (held_alloc (Below.refl _ _)))
    · have nS : ¬ up listed 999 := not_up_ge (by rw [hlsz]; decide)
      have HCM := Lib.hid hcm; clear hcm
      have hcs := ((BQ.out.after HCM.out.below).cells3)
      obtain ⟨d0, d1, d2⟩ := hcs
      have dl := (BQ.out.after HCM.out.below).lt
      refine GJ.op hj hdo hr rfl _ hdi (fun K hK => ?_)
      simp only [Act.put, List.setIfInBounds_toArray] at hK ⊢; clear hj hf hdo hdi
      go_simp
      exact hK _ _ (fun k v _ _ h => h.keep (Below.refl _ _)) (fun t ht => SS.of (.eq (.agg #[.bool q.neg, .slice q1 q.num.length j1, .slice q2 q.den.length j2])) rfl rfl) (HCM.out.keep (by decide) (fun _ _ h _ => h) (Below.refl _ _))
    · have nS : ¬ up listed 999 := not_up_ge (by rw [hlsz]; decide)
      have HCM := Lib.hid hcm; clear hcm
      have hcs := ((BQ.out.after HCM.out.below).cells3)
      obtain ⟨d0, d1, d2⟩ := hcs
      have dl := (BQ.out.after HCM.out.below).lt
      refine GJ.op hj hdo hr rfl _ hdi (fun K hK => ?_)
      simp only [Act.put, List.setIfInBounds_toArray] at hK ⊢; clear hj hf hdo hdi
      go_simp
      exact hK _ _ (fun k v _ _ h => h.keep (Below.refl _ _)) (fun t ht => SS.of (.eq (.agg #[.bool q.neg, .slice q1 q.num.length j1, .slice q2 q.den.length j2])) rfl rfl) (HCM.out.keep (by decide) (fun _ _ h _ => h) (Below.refl _ _))
    · have nS : ¬ up listed 999 := not_up_ge (by rw [hlsz]; decide)
      have s1 : SlI w9 (f 114) ([0]) := (hf 33 _ _ rfl rfl (up_dep hr (by kernel_rfl))) nS
      have s2 : SlI w9 (f 115) ([2, -1]) := (hf 34 _ _ rfl rfl (up_dep hr (by kernel_rfl))) nS
      have e3 : f 116 = .agg #[.bool q.neg, .slice q1 q.num.length j1, .slice q2 q.den.length j2] := hf 35 _ _ rfl rfl (up_dep hr (by kernel_rfl))
      have e4 : f 117 = .agg #[.bool q.neg, .slice q1 q.num.length j1, .slice q2 q.den.length j2] := hf 36 _ _ rfl rfl (up_dep hr (by kernel_rfl))
      have HCM := Lib.hid hcm; clear hcm
      obtain ⟨ph, ch, z1, _, _, _⟩ := s1.shape
      obtain ⟨pw, cw, z2, _, _, _⟩ := s2.shape
      have hq := (FQ.out.after HCM.out.below).parts3
      refine GJ.op hj hdo hr rfl _ hdi (fun K hK => ?_)
      simp only [Act.put, List.setIfInBounds_toArray] at hK ⊢; clear hj hf hdo hdi
      rw [e3, e4] at hK ⊢; clear e3 e4
      rw [z1] at hK s1 ⊢
      rw [z2] at hK s2 ⊢
      go_simp
      exact hK _ _ (fun k v _ _ h => h.keep (Below.refl _ _)) (fun t ht => SS.of (kR (⟨[0], [2, -1], q, q⟩)) rfl (fun _ => IsR.mk s1 s2 hq.2.1 hq.2.2 hq.2.1 hq.2.2)) (HCM.out.keep (by decide) (fun _ _ h _ => h) (Below.refl _ _))
    · have nS : ¬ up listed 999 := not_up_ge (by rw [hlsz]; decide)
      have HCM := Lib.hid hcm; clear hcm
      refine GJ.op hj hdo hr rfl _ hdi (fun K hK => ?_)
      simp only [Act.put, List.setIfInBounds_toArray] at hK ⊢; clear hj hf hdo hdi
      go_simp
      exact hK _ _ (fun k v _ _ h => h.keep (held_alloc (Below.refl _ _))) (fun t ht => SS.of (kI ([0, 1])) rfl (fun _ => SlI.lit (l := [0, 1]) (Box.new _ _ _) rfl (in_lit _ (by decide)) (by decide))) (HCM.out.keep (by decide) (fun _ _ h _ => h) (held_alloc (Below.refl _ _)))
    · have nS : ¬ up listed 999 := not_up_ge (by rw [hlsz]; decide)
      have HCM := Lib.hid hcm; clear hcm
      refine GJ.op hj hdo hr rfl _ hdi (fun K hK => ?_)
      simp only [Act.put, List.setIfInBounds_toArray] at hK ⊢; clear hj hf hdo hdi
      go_simp
      exact hK _ _ (fun k v _ _ h => h.keep (held_alloc (Below.refl _ _))) (fun t ht => SS.of (kI ([1])) rfl (fun _ => SlI.lit (l := [1]) (Box.new _ _ _) rfl (in_lit _ (by decide)) (by decide))) (HCM.out.keep (by decide) (fun _ _ h _ => h) (held_alloc (Below.refl _ _)))
    · have nS : ¬ up listed 999 := not_up_ge (by rw [hlsz]; decide)
      have HCM := Lib.hid hcm; clear hcm
      have hcs := ((BQ.out.after HCM.out.below).cells3)
      obtain ⟨d0, d1, d2⟩ := hcs
      have dl := (BQ.out.after HCM.out.below).lt
      refine GJ.op hj hdo hr rfl _ hdi (fun K hK => ?_)
      simp only [Act.put, List.setIfInBounds_toArray] at hK ⊢; clear hj hf hdo hdi
      go_simp
      exact hK _ _ (fun k v _ _ h => h.keep (Below.refl _ _)) (fun t ht => SS.of (.eq (.agg #[.bool q.neg, .slice q1 q.num.length j1, .slice q2 q.den.length j2])) rfl rfl) (HCM.out.keep (by decide) (fun _ _ h _ => h) (Below.refl _ _))
    · have nS : ¬ up listed 999 := not_up_ge (by rw [hlsz]; decide)
      have HCM := Lib.hid hcm; clear hcm
      have hcs := ((BQ.out.after HCM.out.below).cells3)
      obtain ⟨d0, d1, d2⟩ := hcs
      have dl := (BQ.out.after HCM.out.below).lt
      refine GJ.op hj hdo hr rfl _ hdi (fun K hK => ?_)
      simp only [Act.put, List.setIfInBounds_toArray] at hK ⊢; clear hj hf hdo hdi
      go_simp
      exact hK _ _ (fun k v _ _ h => h.keep (Below.refl _ _)) (fun t ht => SS.of (.eq (.agg #[.bool q.neg, .slice q1 q.num.length j1, .slice q2 q.den.length j2])) rfl rfl) (HCM.out.keep (by decide) (fun _ _ h _ => h) (Below.refl _ _))
    · have nS : ¬ up listed 999 := not_up_ge (by rw [hlsz]; decide)
      have s1 : SlI w9 (f 119) ([0, 1]) := (hf 38 _ _ rfl rfl (up_dep hr (by kernel_rfl))) nS
      have s2 : SlI w9 (f 120) ([1]) := (hf 39 _ _ rfl rfl (up_dep hr (by kernel_rfl))) nS
      have e3 : f 121 = .agg #[.bool q.neg, .slice q1 q.num.length j1, .slice q2 q.den.length j2] := hf 40 _ _ rfl rfl (up_dep hr (by kernel_rfl))
      have e4 : f 122 = .agg #[.bool q.neg, .slice q1 q.num.length j1, .slice q2 q.den.length j2] := hf 41 _ _ rfl rfl (up_dep hr (by kernel_rfl))
      have HCM := Lib.hid hcm; clear hcm
      obtain ⟨ph, ch, z1, _, _, _⟩ := s1.shape
      obtain ⟨pw, cw, z2, _, _, _⟩ := s2.shape
      have hq := (FQ.out.after HCM.out.below).parts3
      refine GJ.op hj hdo hr rfl _ hdi (fun K hK => ?_)
      simp only [Act.put, List.setIfInBounds_toArray] at hK ⊢; clear hj hf hdo hdi
      rw [e3, e4] at hK ⊢; clear e3 e4
      rw [z1] at hK s1 ⊢
      rw [z2] at hK s2 ⊢
      go_simp
      exact hK _ _ (fun k v _ _ h => h.keep (Below.refl _ _)) (fun t ht => SS.of (kR (⟨[0, 1], [1], q, q⟩)) rfl (fun _ => IsR.mk s1 s2 hq.2.1 hq.2.2 hq.2.1 hq.2.2)) (HCM.out.keep (by decide) (fun _ _ h _ => h) (Below.refl _ _))
    · have nS : ¬ up listed 999 := not_up_ge (by rw [hlsz]; decide)
      have HCM := Lib.hid hcm; clear hcm
      refine GJ.op hj hdo hr rfl _ hdi (fun K hK => ?_)
      simp only [Act.put, List.setIfInBounds_toArray] at hK ⊢; clear hj hf hdo hdi
      go_simp
      exact hK _ _ (fun k v _ _ h => h.keep (held_alloc (Below.refl _ _))) (fun t ht => SS.of (kI (List.replicate 17 0)) rfl (fun _ => SlI.lit (l := List.replicate 17 0) (Box.new _ _ _) rfl (in_lit _ (by decide)) (by decide))) (HCM.out.keep (by decide) (fun _ _ h _ => h) (held_alloc (Below.refl _ _)))
    · have nS : ¬ up listed 999 := not_up_ge (by rw [hlsz]; decide)
      have HCM := Lib.hid hcm; clear hcm
      refine GJ.op hj hdo hr rfl _ hdi (fun K hK => ?_)
      simp only [Act.put, List.setIfInBounds_toArray] at hK ⊢; clear hj hf hdo hdi
      go_simp
      exact hK _ _ (fun k v _ _ h => h.keep (held_alloc (Below.refl _ _))) (fun t ht => SS.of (kI ([17])) rfl (fun _ => SlI.lit (l := [17]) (Box.new _ _ _) rfl (in_lit _ (by decide)) (by decide))) (HCM.out.keep (by decide) (fun _ _ h _ => h) (held_alloc (Below.refl _ _)))
    · have nS : ¬ up listed 999 := not_up_ge (by rw [hlsz]; decide)
      have HCM := Lib.hid hcm; clear hcm
      have hcs := ((BQ.out.after HCM.out.below).cells3)
      obtain ⟨d0, d1, d2⟩ := hcs
      have dl := (BQ.out.after HCM.out.below).lt
      refine GJ.op hj hdo hr rfl _ hdi (fun K hK => ?_)
      simp only [Act.put, List.setIfInBounds_toArray] at hK ⊢; clear hj hf hdo hdi
      go_simp
      exact hK _ _ (fun k v _ _ h => h.keep (Below.refl _ _)) (fun t ht => SS.of (.eq (.agg #[.bool q.neg, .slice q1 q.num.length j1, .slice q2 q.den.length j2])) rfl rfl) (HCM.out.keep (by decide) (fun _ _ h _ => h) (Below.refl _ _))
    · have nS : ¬ up listed 999 := not_up_ge (by rw [hlsz]; decide)
      have HCM := Lib.hid hcm; clear hcm
      have hcs := ((BQ.out.after HCM.out.below).cells3)
      obtain ⟨d0, d1, d2⟩ := hcs
      have dl := (BQ.out.after HCM.out.below).lt
      refine GJ.op hj hdo hr rfl _ hdi (fun K hK => ?_)
      simp only [Act.put, List.setIfInBounds_toArray] at hK ⊢; clear hj hf hdo hdi
      go_simp
      exact hK _ _ (fun k v _ _ h => h.keep (Below.refl _ _)) (fun t ht => SS.of (.eq (.agg #[.bool q.neg, .slice q1 q.num.length j1, .slice q2 q.den.length j2])) rfl rfl) (HCM.out.keep (by decide) (fun _ _ h _ => h) (Below.refl _ _))
    · have nS : ¬ up listed 999 := not_up_ge (by rw [hlsz]; decide)
      have s1 : SlI w9 (f 124) (List.replicate 17 0) := (hf 43 _ _ rfl rfl (up_dep hr (by kernel_rfl))) nS
      have s2 : SlI w9 (f 125) ([17]) := (hf 44 _ _ rfl rfl (up_dep hr (by kernel_rfl))) nS
      have e3 : f 126 = .agg #[.bool q.neg, .slice q1 q.num.length j1, .slice q2 q.den.length j2] := hf 45 _ _ rfl rfl (up_dep hr (by kernel_rfl))
      have e4 : f 127 = .agg #[.bool q.neg, .slice q1 q.num.length j1, .slice q2 q.den.length j2] := hf 46 _ _ rfl rfl (up_dep hr (by kernel_rfl))
      have HCM := Lib.hid hcm; clear hcm
      obtain ⟨ph, ch, z1, _, _, _⟩ := s1.shape
      obtain ⟨pw, cw, z2, _, _, _⟩ := s2.shape
      have hq := (FQ.out.after HCM.out.below).parts3
      refine GJ.op hj hdo hr rfl _ hdi (fun K hK => ?_)
      simp only [Act.put, List.setIfInBounds_toArray] at hK ⊢; clear hj hf hdo hdi
      rw [e3, e4] at hK ⊢; clear e3 e4
      rw [z1] at hK s1 ⊢
      rw [z2] at hK s2 ⊢
      go_simp
      exact hK _ _ (fun k v _ _ h => h.keep (Below.refl _ _)) (fun t ht => SS.of (kR (⟨List.replicate 17 0, [17], q, q⟩)) rfl (fun _ => IsR.mk s1 s2 hq.2.1 hq.2.2 hq.2.1 hq.2.2)) (HCM.out.keep (by decide) (fun _ _ h _ => h) (Below.refl _ _))
    · have nS : ¬ up listed 999 := not_up_ge (by rw [hlsz]; decide)
      have HCM := Lib.hid hcm; clear hcm
      refine GJ.op hj hdo hr rfl _ hdi (fun K hK => ?_)
      simp only [Act.put, List.setIfInBounds_toArray] at hK ⊢; clear hj hf hdo hdi
      go_simp
      exact hK _ _ (fun k v _ _ h => h.keep (held_alloc (Below.refl _ _))) (fun t ht => SS.of (kI ([0])) rfl (fun _ => SlI.lit (l := [0]) (Box.new _ _ _) rfl (in_lit _ (by decide)) (by decide))) (HCM.out.keep (by decide) (fun _ _ h _ => h) (held_alloc (Below.refl _ _)))
    · have nS : ¬ up listed 999 := not_up_ge (by rw [hlsz]; decide)
      have HCM := Lib.hid hcm; clear hcm
      refine GJ.op hj hdo hr rfl _ hdi (fun K hK => ?_)
      simp only [Act.put, List.setIfInBounds_toArray] at hK ⊢; clear hj hf hdo hdi
      go_simp
      exact hK _ _ (fun k v _ _ h => h.keep (held_alloc (Below.refl _ _))) (fun t ht => SS.of (kI ([1])) rfl (fun _ => SlI.lit (l := [1]) (Box.new _ _ _) rfl (in_lit _ (by decide)) (by decide))) (HCM.out.keep (by decide) (fun _ _ h _ => h) (held_alloc (Below.refl _ _)))
    · have nS : ¬ up listed 999 := not_up_ge (by rw [hlsz]; decide)
      have HCM := Lib.hid hcm; clear hcm
      refine GJ.op hj hdo hr rfl _ hdi (fun K hK => ?_)
      simp only [Act.put, List.setIfInBounds_toArray] at hK ⊢; clear hj hf hdo hdi
      go_simp
      refine (of32_c _ 5 4 (by omega) (by omega) (by omega) (by omega)).mono ?_
      rw [of_54]
      rintro e w11 ⟨v11, rfl, hv, hb⟩
      exact hK _ _ (fun k v _ _ h => h.keep (hb)) (fun t ht => SS.of (kF (fr false 5 4)) rfl (fun _ => hv)) (HCM.out.keep (by decide) (fun _ _ h _ => h) (hb))
    · have nS : ¬ up listed 999 := not_up_ge (by rw [hlsz]; decide)
      have HCM := Lib.hid hcm; clear hcm
      have hcs := ((BQ.out.after HCM.out.below).cells3)
      obtain ⟨d0, d1, d2⟩ := hcs
      have dl := (BQ.out.after HCM.out.below).lt
      refine GJ.op hj hdo hr rfl _ hdi (fun K hK => ?_)
      simp only [Act.put, List.setIfInBounds_toArray] at hK ⊢; clear hj hf hdo hdi
      go_simp
      exact hK _ _ (fun k v _ _ h => h.keep (Below.refl _ _)) (fun t ht => SS.of (.eq (.agg #[.bool q.neg, .slice q1 q.num.length j1, .slice q2 q.den.length j2])) rfl rfl) (HCM.out.keep (by decide) (fun _ _ h _ => h) (Below.refl _ _))
    · have nS : ¬ up listed 999 := not_up_ge (by rw [hlsz]; decide)
      have s1 : SlI w9 (f 129) ([0]) := (hf 48 _ _ rfl rfl (up_dep hr (by kernel_rfl))) nS
      have s2 : SlI w9 (f 130) ([1]) := (hf 49 _ _ rfl rfl (up_dep hr (by kernel_rfl))) nS
      have s3 : IsF w9 (f 131) (fr false 5 4) := (hf 50 _ _ rfl rfl (up_dep hr (by kernel_rfl))) nS
      have e4 : f 132 = .agg #[.bool q.neg, .slice q1 q.num.length j1, .slice q2 q.den.length j2] := hf 51 _ _ rfl rfl (up_dep hr (by kernel_rfl))
      have HCM := Lib.hid hcm; clear hcm
      obtain ⟨ph, ch, z1, _, _, _⟩ := s1.shape
      obtain ⟨pw, cw, z2, _, _, _⟩ := s2.shape
      obtain ⟨var, vbr, z3, h1r, h2r⟩ := s3
      obtain ⟨ppr, ccr, y1r, _, _⟩ := h1r.shape
      obtain ⟨qqr, ddr, y2r, _, _⟩ := h2r.shape
      subst y1r y2r
      have hq := (FQ.out.after HCM.out.below).parts3
      refine GJ.op hj hdo hr rfl _ hdi (fun K hK => ?_)
      simp only [Act.put, List.setIfInBounds_toArray] at hK ⊢; clear hj hf hdo hdi
      rw [e4] at hK ⊢; clear e4
      rw [z1] at hK s1 ⊢
      rw [z2] at hK s2 ⊢
      rw [z3] at hK ⊢
      go_simp
      exact hK _ _ (fun k v _ _ h => h.keep (Below.refl _ _)) (fun t ht => SS.of (kR (⟨[0], [1], fr false 5 4, q⟩)) rfl (fun _ => IsR.mk s1 s2 h1r h2r hq.2.1 hq.2.2)) (HCM.out.keep (by decide) (fun _ _ h _ => h) (Below.refl _ _))
    · have nS : ¬ up listed 999 := not_up_ge (by rw [hlsz]; decide)
      have HCM := Lib.hid hcm; clear hcm
      refine GJ.op hj hdo hr rfl _ hdi (fun K hK => ?_)
      simp only [Act.put, List.setIfInBounds_toArray] at hK ⊢; clear hj hf hdo hdi
      go_simp
      exact hK _ _ (fun k v _ _ h => h.keep (held_alloc (Below.refl _ _))) (fun t ht => SS.of (kI ([0])) rfl (fun _ => SlI.lit (l := [0]) (Box.new _ _ _) rfl (in_lit _ (by decide)) (by decide))) (HCM.out.keep (by decide) (fun _ _ h _ => h) (held_alloc (Below.refl _ _)))
    · have nS : ¬ up listed 999 := not_up_ge (by rw [hlsz]; decide)
      have HCM := Lib.hid hcm; clear hcm
      refine GJ.op hj hdo hr rfl _ hdi (fun K hK => ?_)
      simp only [Act.put, List.setIfInBounds_toArray] at hK ⊢; clear hj hf hdo hdi
      go_simp
      exact hK _ _ (fun k v _ _ h => h.keep (held_alloc (Below.refl _ _))) (fun t ht => SS.of (kI ([1])) rfl (fun _ => SlI.lit (l := [1]) (Box.new _ _ _) rfl (in_lit _ (by decide)) (by decide))) (HCM.out.keep (by decide) (fun _ _ h _ => h) (held_alloc (Below.refl _ _)))
    · have nS : ¬ up listed 999 := not_up_ge (by rw [hlsz]; decide)
      have HCM := Lib.hid hcm; clear hcm
      refine GJ.op hj hdo hr rfl _ hdi (fun K hK => ?_)
      simp only [Act.put, List.setIfInBounds_toArray] at hK ⊢; clear hj hf hdo hdi
      go_simp
      refine (of32_c _ 1 1001 (by omega) (by omega) (by omega) (by omega)).mono ?_
      rw [of_fine]
      rintro e w11 ⟨v11, rfl, hv, hb⟩
      exact hK _ _ (fun k v _ _ h => h.keep (hb)) (fun t ht => SS.of (kF (fr false 1 1001)) rfl (fun _ => hv)) (HCM.out.keep (by decide) (fun _ _ h _ => h) (hb))
    · have nS : ¬ up listed 999 := not_up_ge (by rw [hlsz]; decide)
      have HCM := Lib.hid hcm; clear hcm
      have hcs := ((BQ.out.after HCM.out.below).cells3)
      obtain ⟨d0, d1, d2⟩ := hcs
      have dl := (BQ.out.after HCM.out.below).lt
      refine GJ.op hj hdo hr rfl _ hdi (fun K hK => ?_)
      simp only [Act.put, List.setIfInBounds_toArray] at hK ⊢; clear hj hf hdo hdi
      go_simp
      exact hK _ _ (fun k v _ _ h => h.keep (Below.refl _ _)) (fun t ht => SS.of (.eq (.agg #[.bool q.neg, .slice q1 q.num.length j1, .slice q2 q.den.length j2])) rfl rfl) (HCM.out.keep (by decide) (fun _ _ h _ => h) (Below.refl _ _))
    · have nS : ¬ up listed 999 := not_up_ge (by rw [hlsz]; decide)
      have s1 : SlI w9 (f 134) ([0]) := (hf 53 _ _ rfl rfl (up_dep hr (by kernel_rfl))) nS
      have s2 : SlI w9 (f 135) ([1]) := (hf 54 _ _ rfl rfl (up_dep hr (by kernel_rfl))) nS
      have s3 : IsF w9 (f 136) (fr false 1 1001) := (hf 55 _ _ rfl rfl (up_dep hr (by kernel_rfl))) nS
      have e4 : f 137 = .agg #[.bool q.neg, .slice q1 q.num.length j1, .slice q2 q.den.length j2] := hf 56 _ _ rfl rfl (up_dep hr (by kernel_rfl))
      have HCM := Lib.hid hcm; clear hcm
      obtain ⟨ph, ch, z1, _, _, _⟩ := s1.shape
      obtain ⟨pw, cw, z2, _, _, _⟩ := s2.shape
      obtain ⟨var, vbr, z3, h1r, h2r⟩ := s3
      obtain ⟨ppr, ccr, y1r, _, _⟩ := h1r.shape
      obtain ⟨qqr, ddr, y2r, _, _⟩ := h2r.shape
      subst y1r y2r
      have hq := (FQ.out.after HCM.out.below).parts3
      refine GJ.op hj hdo hr rfl _ hdi (fun K hK => ?_)
      simp only [Act.put, List.setIfInBounds_toArray] at hK ⊢; clear hj hf hdo hdi
      rw [e4] at hK ⊢; clear e4
      rw [z1] at hK s1 ⊢
      rw [z2] at hK s2 ⊢
      rw [z3] at hK ⊢
      go_simp
      exact hK _ _ (fun k v _ _ h => h.keep (Below.refl _ _)) (fun t ht => SS.of (kR (⟨[0], [1], fr false 1 1001, q⟩)) rfl (fun _ => IsR.mk s1 s2 h1r h2r hq.2.1 hq.2.2)) (HCM.out.keep (by decide) (fun _ _ h _ => h) (Below.refl _ _))
    · have nS : ¬ up listed 999 := not_up_ge (by rw [hlsz]; decide)
      have HCM := Lib.hid hcm; clear hcm
      refine GJ.op hj hdo hr rfl _ hdi (fun K hK => ?_)
      simp only [Act.put, List.setIfInBounds_toArray] at hK ⊢; clear hj hf hdo hdi
      go_simp
      exact hK _ _ (fun k v _ _ h => h.keep (held_alloc (Below.refl _ _))) (fun t ht => SS.of (kI ([0])) rfl (fun _ => SlI.lit (l := [0]) (Box.new _ _ _) rfl (in_lit _ (by decide)) (by decide))) (HCM.out.keep (by decide) (fun _ _ h _ => h) (held_alloc (Below.refl _ _)))
    · have nS : ¬ up listed 999 := not_up_ge (by rw [hlsz]; decide)
      have HCM := Lib.hid hcm; clear hcm
      refine GJ.op hj hdo hr rfl _ hdi (fun K hK => ?_)
      simp only [Act.put, List.setIfInBounds_toArray] at hK ⊢; clear hj hf hdo hdi
      go_simp
      exact hK _ _ (fun k v _ _ h => h.keep (held_alloc (Below.refl _ _))) (fun t ht => SS.of (kI ([1])) rfl (fun _ => SlI.lit (l := [1]) (Box.new _ _ _) rfl (in_lit _ (by decide)) (by decide))) (HCM.out.keep (by decide) (fun _ _ h _ => h) (held_alloc (Below.refl _ _)))
    · have nS : ¬ up listed 999 := not_up_ge (by rw [hlsz]; decide)
      have HCM := Lib.hid hcm; clear hcm
      have hcs := ((BQ.out.after HCM.out.below).cells3)
      obtain ⟨d0, d1, d2⟩ := hcs
      have dl := (BQ.out.after HCM.out.below).lt
      refine GJ.op hj hdo hr rfl _ hdi (fun K hK => ?_)
      simp only [Act.put, List.setIfInBounds_toArray] at hK ⊢; clear hj hf hdo hdi
      go_simp
      exact hK _ _ (fun k v _ _ h => h.keep (Below.refl _ _)) (fun t ht => SS.of (.eq (.agg #[.bool q.neg, .slice q1 q.num.length j1, .slice q2 q.den.length j2])) rfl rfl) (HCM.out.keep (by decide) (fun _ _ h _ => h) (Below.refl _ _))
    · have nS : ¬ up listed 999 := not_up_ge (by rw [hlsz]; decide)
      have HCM := Lib.hid hcm; clear hcm
      refine GJ.op hj hdo hr rfl _ hdi (fun K hK => ?_)
      simp only [Act.put, List.setIfInBounds_toArray] at hK ⊢; clear hj hf hdo hdi
      go_simp
      refine (of32_c _ (-1) 4 (by omega) (by omega) (by omega) (by omega)).mono ?_
      rw [of_n14]
      rintro e w11 ⟨v11, rfl, hv, hb⟩
      exact hK _ _ (fun k v _ _ h => h.keep (hb)) (fun t ht => SS.of (kF (fr true 1 4)) rfl (fun _ => hv)) (HCM.out.keep (by decide) (fun _ _ h _ => h) (hb))
    · have nS : ¬ up listed 999 := not_up_ge (by rw [hlsz]; decide)
      have s1 : SlI w9 (f 139) ([0]) := (hf 58 _ _ rfl rfl (up_dep hr (by kernel_rfl))) nS
      have s2 : SlI w9 (f 140) ([1]) := (hf 59 _ _ rfl rfl (up_dep hr (by kernel_rfl))) nS
      have e3 : f 141 = .agg #[.bool q.neg, .slice q1 q.num.length j1, .slice q2 q.den.length j2] := hf 60 _ _ rfl rfl (up_dep hr (by kernel_rfl))
      have s4 : IsF w9 (f 142) (fr true 1 4) := (hf 61 _ _ rfl rfl (up_dep hr (by kernel_rfl))) nS
      have HCM := Lib.hid hcm; clear hcm
      obtain ⟨ph, ch, z1, _, _, _⟩ := s1.shape
      obtain ⟨pw, cw, z2, _, _, _⟩ := s2.shape
      obtain ⟨vab, vbb, z4, h1b, h2b⟩ := s4
      obtain ⟨ppb, ccb, y1b, _, _⟩ := h1b.shape
      obtain ⟨qqb, ddb, y2b, _, _⟩ := h2b.shape
      subst y1b y2b
      have hq := (FQ.out.after HCM.out.below).parts3
      refine GJ.op hj hdo hr rfl _ hdi (fun K hK => ?_)
      simp only [Act.put, List.setIfInBounds_toArray] at hK ⊢; clear hj hf hdo hdi
      rw [e3] at hK ⊢; clear e3
      rw [z1] at hK s1 ⊢
      rw [z2] at hK s2 ⊢
      rw [z4] at hK ⊢
      go_simp
      exact hK _ _ (fun k v _ _ h => h.keep (Below.refl _ _)) (fun t ht => SS.of (kR (⟨[0], [1], q, fr true 1 4⟩)) rfl (fun _ => IsR.mk s1 s2 hq.2.1 hq.2.2 h1b h2b)) (HCM.out.keep (by decide) (fun _ _ h _ => h) (Below.refl _ _))
    · have nS : ¬ up listed 999 := not_up_ge (by rw [hlsz]; decide)
      have e1 : f 81 = .agg #[.slice none 0 0, .slice none 0 0, .bool false, .slice none 0 0, .slice none 0 0, .bool false, .slice none 0 0, .slice none 0 0] := hf 0 _ _ rfl rfl (up_dep hr (by kernel_rfl))
      have s2 : IsR w9 (f 85) (⟨[0], [], q, q⟩) := (hf 4 _ _ rfl rfl (up_dep hr (by kernel_rfl))) nS
      have s3 : IsR w9 (f 89) (⟨[0], [1], q, F0⟩) := (hf 8 _ _ rfl rfl (up_dep hr (by kernel_rfl))) nS
      have s4 : IsR w9 (f 93) (⟨[0], [1], F0, q⟩) := (hf 12 _ _ rfl rfl (up_dep hr (by kernel_rfl))) nS
      have s5 : IsR w9 (f 98) (⟨[16], [1], q, q⟩) := (hf 17 _ _ rfl rfl (up_dep hr (by kernel_rfl))) nS
      have s6 : IsR w9 (f 103) (⟨[-1], [1], q, q⟩) := (hf 22 _ _ rfl rfl (up_dep hr (by kernel_rfl))) nS
      have s7 : IsR w9 (f 108) (⟨[3, 3], [2], q, q⟩) := (hf 27 _ _ rfl rfl (up_dep hr (by kernel_rfl))) nS
      have s8 : IsR w9 (f 113) (⟨[0], [0, 1], q, q⟩) := (hf 32 _ _ rfl rfl (up_dep hr (by kernel_rfl))) nS
      have s9 : IsR w9 (f 118) (⟨[0], [2, -1], q, q⟩) := (hf 37 _ _ rfl rfl (up_dep hr (by kernel_rfl))) nS
      have s10 : IsR w9 (f 123) (⟨[0, 1], [1], q, q⟩) := (hf 42 _ _ rfl rfl (up_dep hr (by kernel_rfl))) nS
      have s11 : IsR w9 (f 128) (⟨List.replicate 17 0, [17], q, q⟩) := (hf 47 _ _ rfl rfl (up_dep hr (by kernel_rfl))) nS
      have s12 : IsR w9 (f 133) (⟨[0], [1], fr false 5 4, q⟩) := (hf 52 _ _ rfl rfl (up_dep hr (by kernel_rfl))) nS
      have s13 : IsR w9 (f 138) (⟨[0], [1], fr false 1 1001, q⟩) := (hf 57 _ _ rfl rfl (up_dep hr (by kernel_rfl))) nS
      have s14 : IsR w9 (f 143) (⟨[0], [1], q, fr true 1 4⟩) := (hf 62 _ _ rfl rfl (up_dep hr (by kernel_rfl))) nS
      have HCM := Lib.hid hcm; clear hcm
      refine GJ.op hj hdo hr rfl _ hdi (fun K hK => ?_)
      simp only [Act.put, List.setIfInBounds_toArray] at hK ⊢; clear hj hf hdo hdi
      rw [e1] at hK ⊢; clear e1
      refine step_odd ?q1 14 #[(0, .tmp 81), (1, .tmp 85), (2, .tmp 89), (3, .tmp 93), (4, .tmp 98), (5, .tmp 103), (6, .tmp 108), (7, .tmp 113), (8, .tmp 118), (9, .tmp 123), (10, .tmp 128), (11, .tmp 133), (12, .tmp 138), (13, .tmp 143)] ?q2 [.agg #[.slice none 0 0, .slice none 0 0, .bool false, .slice none 0 0, .slice none 0 0, .bool false, .slice none 0 0, .slice none 0 0], f 85, f 89, f 93, f 98, f 103, f 108, f 113, f 118, f 123, f 128, f 133, f 138, f 143] (oddR q) rfl (by decide) (by decide) ?q3 rfl ?q4 ?_
      case q1 => rfl
      case q2 => rfl
      case q3 => rfl
      case q4 =>
        intro i hi
        have hi : i < 14 := hi
        rcases i with _ | _ | _ | _ | _ | _ | _ | _ | _ | _ | _ | _ | _ | _ | i
        · exact IsR.mk (SlI.nil _) (SlI.nil _) (sl_f0 _).1 (sl_f0 _).2 (sl_f0 _).1 (sl_f0 _).2
        · exact s2
        · exact s3
        · exact s4
        · exact s5
        · exact s6
        · exact s7
        · exact s8
        · exact s9
        · exact s10
        · exact s11
        · exact s12
        · exact s13
        · exact s14
        · omega
      intro v11 w11 ho hb11
      exact hK _ _ (fun k v _ _ h => h.keep (hb11)) (fun t ht => SS.of (kO (oddR q)) rfl (fun _ => ho)) (HCM.out.keep (by decide) (fun _ _ h _ => h) (hb11))
    · have nS : ¬ up listed 999 := not_up_ge (by rw [hlsz]; decide)
      have s1 : IsOdd w9 (f 144) (oddR q) := (hf 63 _ _ rfl rfl (up_dep hr (by kernel_rfl))) nS
      have HCM := Lib.hid hcm; clear hcm
      refine GJ.op hj hdo hr rfl _ hdi (fun K hK => ?_)
      simp only [Act.put, List.setIfInBounds_toArray] at hK ⊢; clear hj hf hdo hdi
      obtain ⟨bo, zo, ho⟩ := s1
      rw [zo] at hK ⊢
      go_simp
      exact hK _ _ (fun k v _ _ h => h.keep (Below.refl _ _)) (fun t ht => SS.of (kO (oddR q)) rfl (fun _ => ⟨bo, rfl, ho⟩)) (HCM.out.keep (by decide) (fun _ _ h _ => h) (Below.refl _ _))
  · intro listed a w10 hr hj
    have hu : ∀ k, k < 65 → up listed k := fun k hk => all_up (by kernel_rfl) hj.lsize hr k hk
    have hlsz : listed.size = 65 := hj.lsize
    obtain ⟨f, ha, hcm, hf, hdo, hdi⟩ := hj.open2 [81, 82, 83, 84, 85, 86, 87, 88, 89, 90, 91, 92, 93, 94, 95, 96, 97, 98, 99, 100, 101, 102, 103, 104, 105, 106, 107, 108, 109, 110, 111, 112, 113, 114, 115, 116, 117, 118, 119, 120, 121, 122, 123, 124, 125, 126, 127, 128, 129, 130, 131, 132, 133, 134, 135, 136, 137, 138, 139, 140, 141, 142, 143, 144, 7] (by kernel_rfl) (by kernel_rfl)
    simp only [List.foldl_cons, List.foldl_nil, List.setIfInBounds_toArray, List.set_cons_zero, List.set_cons_succ] at ha
    subst ha
    replace hcm : CS w0 999 (fun _ => True) listed f w10 := hcm
    have ho : IsOdd w10 (f 7) (oddR q) := (hf 64 _ _ rfl rfl (hu 64 (by omega))) (not_up_ge (by rw [hlsz]; decide))
    have HBR := hcm.below
    clear hf hj hr hu hcm hlsz hdo hdi
    generalize f 7 = g7 at ho ⊢
    generalize f 81 = g81
    generalize f 82 = g82
    generalize f 83 = g83
    generalize f 84 = g84
    generalize f 85 = g85
    generalize f 86 = g86
    generalize f 87 = g87
    generalize f 88 = g88
    generalize f 89 = g89
    generalize f 90 = g90
    generalize f 91 = g91
    generalize f 92 = g92
    generalize f 93 = g93
    generalize f 94 = g94
    generalize f 95 = g95
    generalize f 96 = g96
    generalize f 97 = g97
    generalize f 98 = g98
    generalize f 99 = g99
    generalize f 100 = g100
    generalize f 101 = g101
    generalize f 102 = g102
    generalize f 103 = g103
    generalize f 104 = g104
    generalize f 105 = g105
    generalize f 106 = g106
    generalize f 107 = g107
    generalize f 108 = g108
    generalize f 109 = g109
    generalize f 110 = g110
    generalize f 111 = g111
    generalize f 112 = g112
    generalize f 113 = g113
    generalize f 114 = g114
    generalize f 115 = g115
    generalize f 116 = g116
    generalize f 117 = g117
    generalize f 118 = g118
    generalize f 119 = g119
    generalize f 120 = g120
    generalize f 121 = g121
    generalize f 122 = g122
    generalize f 123 = g123
    generalize f 124 = g124
    generalize f 125 = g125
    generalize f 126 = g126
    generalize f 127 = g127
    generalize f 128 = g128
    generalize f 129 = g129
    generalize f 130 = g130
    generalize f 131 = g131
    generalize f 132 = g132
    generalize f 133 = g133
    generalize f 134 = g134
    generalize f 135 = g135
    generalize f 136 = g136
    generalize f 137 = g137
    generalize f 138 = g138
    generalize f 139 = g139
    generalize f 140 = g140
    generalize f 141 = g141
    generalize f 142 = g142
    generalize f 143 = g143
    generalize f 144 = g144
    exact hQ.out _ _ _ _ _ _ _ _ _ _ _ _ _ _ _ _ _ _ _ _ _ _ _ _ _ _ _ _ _ _ _ _ _ _ _ _ _ _ _ _ _ _ _ _ _ _ _ _ _ _ _ _ _ _ _ _ _ _ _ _ _ _ _ _ _ _ ho HBR
end Go.Proofs.Ytebmegodeglobaa

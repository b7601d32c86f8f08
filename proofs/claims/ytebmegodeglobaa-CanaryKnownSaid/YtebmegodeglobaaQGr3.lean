/- The examples of CanaryKnown: drawn regions of the walk (21, 22, 24, 25, 28). -/
import Derived.Test.YtebmegodeglobaaQGr0
set_option linter.unusedVariables false
namespace Go.Proofs.Ytebmegodeglobaa
open Go.RowKit

set_option maxRecDepth 100000 in
set_option maxHeartbeats 16000000 in
theorem known_r21 (ops : Array Oper) (hops : (Try.f3.body.bind (regOf 21)) = some ops) {w0 : World} {X : Ro} {bx : Nat} {px0 px1 px2 px3 px4 px5 : Option Addr} {kx0 kx1 kx2 kx3 kx4 kx5 : Nat} {Q : Exit → Act → World → Prop} {x0 x2 x3 x4 x5 x6 x7 x8 x9 x10 x11 x12 x13 x14 x15 x16 x17 x18 x19 x20 x21 x22 x23 x24 x25 x26 x27 x28 x29 x30 x31 x32 x33 x34 x35 x36 x37 x38 x39 x40 x41 x42 x43 x44 x45 x46 x47 x48 x49 x50 x51 x52 x53 x54 x55 x56 x57 x58 x59 x60 x61 x62 x63 x64 x65 x66 x67 x68 x69 x70 x71 x72 x73 x74 x75 x76 x77 x78 x79 x80 x81 x82 x83 x84 x85 x86 x87 x88 x89 x90 x91 x92 x93 x94 x95 x96 x97 x98 x99 x100 x101 x102 x103 x104 x105 x106 x107 x108 x109 x110 x111 x112 x113 x114 x115 x116 x117 x118 x119 x120 x121 x122 x123 x124 x125 x126 x127 x128 x129 x130 x131 x132 x133 x134 x135 x136 x137 x138 x139 x140 x141 x142 x143 x144 x145 x146 x147 x148 x149 x150 x151 x152 x153 x154 x155 x156 x157 x158 x159 x160 x161 x162 x163 x164 x165 x166 x167 x168 x169 x170 x171 x172 x173 x174 x175 x176 x177 x178 x179 x180 x181 x182 x183 x184 x185 x186 x187 x188 x189 x190 x191 x192 x193 x194 x195 x196 x197 x198 x199 x200 x201 x202 x203 x204 x205 x206 x207 x208 x209 x210 x211 x212 x213 x214 x215 x216 x217 x218 x219 x220 x221 x222 x223 x224 x225 x226 x227 x228 x229 x230 x231 x232 x233 x234 x235 x236 x237 x238 x239 x240 x241 x242 x243 x244 x245 x246 x247 x248 x249 x250 x251 x252 x253 x254 x255 x256 x257 x258 x259 x260 x261 x262 x263 x264 x265 x266 x267 x268 x269 x270 x271 x272 x273 x274 x275 x276 x277 x278 x279 x280 x281 x282 x283 x284 x285 x286 x287 x288 x289 x290 x291 x292 x293 x294 x295 x296 x297 x298 x299 x300 x301 x302 x303 x304 x305 x306 x307 x308 x309 x310 x311 x312 x313 x314 x315 x316 x317 x318 x319 x320 x321 x322 x323 x324 x325 : Value}
    (BX : Hid (Box w0 bx #[.slice px0 X.hosts.length kx0, .slice px1 X.waves.length kx1, .bool X.rate.neg, .slice px2 X.rate.num.length kx2, .slice px3 X.rate.den.length kx3, .bool X.bound.neg, .slice px4 X.bound.num.length kx4, .slice px5 X.bound.den.length kx5] 28)) (HRX : Hid (IsR w0 (.agg #[.slice px0 X.hosts.length kx0, .slice px1 X.waves.length kx1, .bool X.rate.neg, .slice px2 X.rate.num.length kx2, .slice px3 X.rate.den.length kx3, .bool X.bound.neg, .slice px4 X.bound.num.length kx4, .slice px5 X.bound.den.length kx5]) X)) (HRUN : Hid (runF X (List.replicate 4 false) = ([], 2)))
    (hQ : ∀ (w10 : World) (y18 y193 y194 y195 y196 y197 y198 : Value), Below w0.heap.size w0 w10 → Q .normal ⟨[x0, .pointer (some ⟨bx, 0, none⟩), x2, x3, x4, x5, x6, x7, x8, x9, x10, x11, x12, x13, x14, x15, x16, x17, y18, .int .i64 2, x20, x21, x22, x23, x24, x25, x26, x27, x28, x29, x30, x31, x32, x33, x34, x35, x36, x37, x38, x39, x40, x41, x42, x43, x44, x45, x46, x47, x48, x49, x50, x51, x52, x53, x54, x55, x56, x57, x58, x59, x60, x61, x62, x63, x64, x65, x66, x67, x68, x69, x70, x71, x72, x73, x74, x75, x76, x77, x78, x79, x80, x81, x82, x83, x84, x85, x86, x87, x88, x89, x90, x91, x92, x93, x94, x95, x96, x97, x98, x99, x100, x101, x102, x103, x104, x105, x106, x107, x108, x109, x110, x111, x112, x113, x114, x115, x116, x117, x118, x119, x120, x121, x122, x123, x124, x125, x126, x127, x128, x129, x130, x131, x132, x133, x134, x135, x136, x137, x138, x139, x140, x141, x142, x143, x144, x145, x146, x147, x148, x149, x150, x151, x152, x153, x154, x155, x156, x157, x158, x159, x160, x161, x162, x163, x164, x165, x166, x167, x168, x169, x170, x171, x172, x173, x174, x175, x176, x177, x178, x179, x180, x181, x182, x183, x184, x185, x186, x187, x188, x189, x190, x191, x192, y193, y194, y195, y196, y197, y198, x199, x200, x201, x202, x203, x204, x205, x206, x207, x208, x209, x210, x211, x212, x213, x214, x215, x216, x217, x218, x219, x220, x221, x222, x223, x224, x225, x226, x227, x228, x229, x230, x231, x232, x233, x234, x235, x236, x237, x238, x239, x240, x241, x242, x243, x244, x245, x246, x247, x248, x249, x250, x251, x252, x253, x254, x255, x256, x257, x258, x259, x260, x261, x262, x263, x264, x265, x266, x267, x268, x269, x270, x271, x272, x273, x274, x275, x276, x277, x278, x279, x280, x281, x282, x283, x284, x285, x286, x287, x288, x289, x290, x291, x292, x293, x294, x295, x296, x297, x298, x299, x300, x301, x302, x303, x304, x305, x306, x307, x308, x309, x310, x311, x312, x313, x314, x315, x316, x317, x318, x319, x320, x321, x322, x323, x324, x325].toArray, []⟩ w10) :
    (Code.region 21 ops true).wp Try.prog Q ⟨[x0, .pointer (some ⟨bx, 0, none⟩), x2, x3, x4, x5, x6, x7, x8, x9, x10, x11, x12, x13, x14, x15, x16, x17, x18, x19, x20, x21, x22, x23, x24, x25, x26, x27, x28, x29, x30, x31, x32, x33, x34, x35, x36, x37, x38, x39, x40, x41, x42, x43, x44, x45, x46, x47, x48, x49, x50, x51, x52, x53, x54, x55, x56, x57, x58, x59, x60, x61, x62, x63, x64, x65, x66, x67, x68, x69, x70, x71, x72, x73, x74, x75, x76, x77, x78, x79, x80, x81, x82, x83, x84, x85, x86, x87, x88, x89, x90, x91, x92, x93, x94, x95, x96, x97, x98, x99, x100, x101, x102, x103, x104, x105, x106, x107, x108, x109, x110, x111, x112, x113, x114, x115, x116, x117, x118, x119, x120, x121, x122, x123, x124, x125, x126, x127, x128, x129, x130, x131, x132, x133, x134, x135, x136, x137, x138, x139, x140, x141, x142, x143, x144, x145, x146, x147, x148, x149, x150, x151, x152, x153, x154, x155, x156, x157, x158, x159, x160, x161, x162, x163, x164, x165, x166, x167, x168, x169, x170, x171, x172, x173, x174, x175, x176, x177, x178, x179, x180, x181, x182, x183, x184, x185, x186, x187, x188, x189, x190, x191, x192, x193, x194, x195, x196, x197, x198, x199, x200, x201, x202, x203, x204, x205, x206, x207, x208, x209, x210, x211, x212, x213, x214, x215, x216, x217, x218, x219, x220, x221, x222, x223, x224, x225, x226, x227, x228, x229, x230, x231, x232, x233, x234, x235, x236, x237, x238, x239, x240, x241, x242, x243, x244, x245, x246, x247, x248, x249, x250, x251, x252, x253, x254, x255, x256, x257, x258, x259, x260, x261, x262, x263, x264, x265, x266, x267, x268, x269, x270, x271, x272, x273, x274, x275, x276, x277, x278, x279, x280, x281, x282, x283, x284, x285, x286, x287, x288, x289, x290, x291, x292, x293, x294, x295, x296, x297, x298, x299, x300, x301, x302, x303, x304, x305, x306, x307, x308, x309, x310, x311, x312, x313, x314, x315, x316, x317, x318, x319, x320, x321, x322, x323, x324, x325].toArray, []⟩ w0 := by
  simp only [Try.f3, Option.bind_some, regOf] at hops
  replace hops := Option.some.inj hops
  subst hops
  replace hQ := Lib.hid hQ
  have hmk4 : ∀ W : World, (Instr.makeSlice 32 (.int .i64 4) (.int .i64 4)).run Try.prog W = .ok (.slice (some ⟨W.heap.size, 0, none⟩) 4 4) (W.alloc (.cells #[.bool false, .bool false, .bool false, .bool false] 4)) := by
    intro W
    have h := run_make_row' (P := Try.prog) 32 4 (.bool false) 1 Try.underlying32 (by kernel_rfl) rfl .i64 .i64 4 (by omega) (by omega) W
    rw [show madeCells #[Value.bool false] 4 = #[.bool false, .bool false, .bool false, .bool false] from by kernel_rfl] at h
    exact h
  refine wp_region_gj (J := GJ _ (SS 999 (fun κ => match κ with | 0 => (.eq (.agg #[.slice px0 X.hosts.length kx0, .slice px1 X.waves.length kx1, .bool X.rate.neg, .slice px2 X.rate.num.length kx2, .slice px3 X.rate.den.length kx3, .bool X.bound.neg, .slice px4 X.bound.num.length kx4, .slice px5 X.bound.den.length kx5])) | 1 => (kB (List.replicate 4 false)) | 2 => (kP (fun v => ∃ p n c, v = .tuple #[.slice p n c, .int .i64 2])) | 3 => (kP (fun v => ∃ p n c, v = .tuple #[.slice p n c, .int .i64 2])) | 4 => (kP (fun v => ∃ p n c, v = .slice p n c)) | 5 => (.eq (.int .i64 2)) | 6 => (kP (fun v => ∃ p n c, v = .slice p n c)) | 7 => (.eq (.int .i64 2)) | _ => .any)) (CS w0 999 (fun _ => True)) _) (by kernel_rfl) ?_ ?_ (GJ.start CS.start)
  · intro listed a w9 i hr hj
    obtain ⟨hi12, hun, _, _, _⟩ := ready_mem hr
    have h12 : i ∈ List.range 8 := List.mem_range.2 hi12
    simp only [List.range, List.range.loop, List.mem_cons, List.not_mem_nil, or_false] at h12
    obtain ⟨f, ha, hcm, hf, hdo, hdi⟩ := hj.open2 [194, 195, 196, 193, 197, 198, 18, 19] (by kernel_rfl) (by kernel_rfl)
    simp only [List.foldl_cons, List.foldl_nil, List.setIfInBounds_toArray, List.set_cons_zero, List.set_cons_succ] at ha
    subst ha
    replace hcm : CS w0 999 (fun _ => True) listed f w9 := hcm
    have hlsz : listed.size = 8 := hj.lsize
    rcases h12 with rfl | rfl | rfl | rfl | rfl | rfl | rfl | rfl
    · have nS : ¬ up listed 999 := not_up_ge (by rw [hlsz]; decide)
      have HCM := Lib.hid hcm; clear hcm
      have hcs := ((BX.out.after HCM.out.below).cells8)
      obtain ⟨d0, d1, d2, d3, d4, d5, d6, d7⟩ := hcs
      have dl := (BX.out.after HCM.out.below).lt
      refine GJ.op hj hdo hr rfl _ hdi (fun K hK => ?_)
      simp only [Act.put, List.setIfInBounds_toArray] at hK ⊢; clear hj hf hdo hdi
      go_simp
      exact hK _ _ (fun k v _ _ h => h.keep (Below.refl _ _)) (fun t ht => SS.of (.eq (.agg #[.slice px0 X.hosts.length kx0, .slice px1 X.waves.length kx1, .bool X.rate.neg, .slice px2 X.rate.num.length kx2, .slice px3 X.rate.den.length kx3, .bool X.bound.neg, .slice px4 X.bound.num.length kx4, .slice px5 X.bound.den.length kx5])) rfl rfl) (HCM.out.keep (by decide) (fun _ _ h _ => h) (Below.refl _ _))
    · have nS : ¬ up listed 999 := not_up_ge (by rw [hlsz]; decide)
      have HCM := Lib.hid hcm; clear hcm
      refine GJ.op hj hdo hr rfl _ hdi (fun K hK => ?_)
      simp only [Act.put, List.setIfInBounds_toArray] at hK ⊢; clear hj hf hdo hdi
      go_simp
      exact hK _ _ (fun k v _ _ h => h.keep (held_alloc (Below.refl _ _))) (fun t ht => SS.of (kB (List.replicate 4 false)) rfl (fun _ => SlB.lit (l := List.replicate 4 false) (Box.new _ _ _) rfl (by decide))) (HCM.out.keep (by decide) (fun _ _ h _ => h) (held_alloc (Below.refl _ _)))
    · have nS : ¬ up listed 999 := not_up_ge (by rw [hlsz]; decide)
      have e1 : f 194 = .agg #[.slice px0 X.hosts.length kx0, .slice px1 X.waves.length kx1, .bool X.rate.neg, .slice px2 X.rate.num.length kx2, .slice px3 X.rate.den.length kx3, .bool X.bound.neg, .slice px4 X.bound.num.length kx4, .slice px5 X.bound.den.length kx5] := hf 0 _ _ rfl rfl (up_dep hr (by kernel_rfl))
      have s2 : SlB w9 (f 195) (List.replicate 4 false) := (hf 1 _ _ rfl rfl (up_dep hr (by kernel_rfl))) nS
      have HCM := Lib.hid hcm; clear hcm
      refine GJ.op hj hdo hr rfl _ hdi (fun K hK => ?_)
      simp only [Act.put, List.setIfInBounds_toArray] at hK ⊢; clear hj hf hdo hdi
      rw [e1] at hK ⊢; clear e1
      go_simp
      refine (Run_c _ _ _ X _ (HRX.out.after HCM.out.below) s2).mono ?_
      rw [HRUN.out]
      rintro e w11 ⟨v11, rfl, hv, hb⟩
      obtain ⟨pp, cc, rfl, _⟩ := (show SlD w11 v11 [] from hv)
      exact hK _ _ (fun k v _ _ h => h.keep (hb)) (fun t ht => SS.of (kP (fun v => ∃ p n c, v = .tuple #[.slice p n c, .int .i64 2])) rfl (fun _ => ⟨_, _, _, rfl⟩)) (HCM.out.keep (by decide) (fun _ _ h _ => h) (hb))
    · have nS : ¬ up listed 999 := not_up_ge (by rw [hlsz]; decide)
      have s1 : (fun v => ∃ p n c, v = .tuple #[.slice p n c, .int .i64 2]) (f 196) := (hf 2 _ _ rfl rfl (up_dep hr (by kernel_rfl))) nS
      have HCM := Lib.hid hcm; clear hcm
      obtain ⟨pp, nn, cc, zz⟩ := s1
      refine GJ.op hj hdo hr rfl _ hdi (fun K hK => ?_)
      simp only [Act.put, List.setIfInBounds_toArray] at hK ⊢; clear hj hf hdo hdi
      rw [zz] at hK ⊢
      go_simp
      exact hK _ _ (fun k v _ _ h => h.keep (Below.refl _ _)) (fun t ht => SS.of (kP (fun v => ∃ p n c, v = .tuple #[.slice p n c, .int .i64 2])) rfl (fun _ => ⟨_, _, _, rfl⟩)) (HCM.out.keep (by decide) (fun _ _ h _ => h) (Below.refl _ _))
    · have nS : ¬ up listed 999 := not_up_ge (by rw [hlsz]; decide)
      have s1 : (fun v => ∃ p n c, v = .tuple #[.slice p n c, .int .i64 2]) (f 193) := (hf 3 _ _ rfl rfl (up_dep hr (by kernel_rfl))) nS
      have HCM := Lib.hid hcm; clear hcm
      obtain ⟨pp, nn, cc, zz⟩ := s1
      refine GJ.op hj hdo hr rfl _ hdi (fun K hK => ?_)
      simp only [Act.put, List.setIfInBounds_toArray] at hK ⊢; clear hj hf hdo hdi
      rw [zz] at hK ⊢
      go_simp
      exact hK _ _ (fun k v _ _ h => h.keep (Below.refl _ _)) (fun t ht => SS.of (kP (fun v => ∃ p n c, v = .slice p n c)) rfl (fun _ => ⟨_, _, _, rfl⟩)) (HCM.out.keep (by decide) (fun _ _ h _ => h) (Below.refl _ _))
    · have nS : ¬ up listed 999 := not_up_ge (by rw [hlsz]; decide)
      have s1 : (fun v => ∃ p n c, v = .tuple #[.slice p n c, .int .i64 2]) (f 193) := (hf 3 _ _ rfl rfl (up_dep hr (by kernel_rfl))) nS
      have HCM := Lib.hid hcm; clear hcm
      obtain ⟨pp, nn, cc, zz⟩ := s1
      refine GJ.op hj hdo hr rfl _ hdi (fun K hK => ?_)
      simp only [Act.put, List.setIfInBounds_toArray] at hK ⊢; clear hj hf hdo hdi
      rw [zz] at hK ⊢
      go_simp
      exact hK _ _ (fun k v _ _ h => h.keep (Below.refl _ _)) (fun t ht => SS.of (.eq (.int .i64 2)) rfl rfl) (HCM.out.keep (by decide) (fun _ _ h _ => h) (Below.refl _ _))
    · have nS : ¬ up listed 999 := not_up_ge (by rw [hlsz]; decide)
      have s1 : (fun v => ∃ p n c, v = .slice p n c) (f 197) := (hf 4 _ _ rfl rfl (up_dep hr (by kernel_rfl))) nS
      have HCM := Lib.hid hcm; clear hcm
      obtain ⟨pp, nn, cc, zz⟩ := s1
      refine GJ.op hj hdo hr rfl _ hdi (fun K hK => ?_)
      simp only [Act.put, List.setIfInBounds_toArray] at hK ⊢; clear hj hf hdo hdi
      rw [zz] at hK ⊢
      go_simp
      exact hK _ _ (fun k v _ _ h => h.keep (Below.refl _ _)) (fun t ht => SS.of (kP (fun v => ∃ p n c, v = .slice p n c)) rfl (fun _ => ⟨_, _, _, rfl⟩)) (HCM.out.keep (by decide) (fun _ _ h _ => h) (Below.refl _ _))
    · have nS : ¬ up listed 999 := not_up_ge (by rw [hlsz]; decide)
      have e1 : f 198 = .int .i64 2 := hf 5 _ _ rfl rfl (up_dep hr (by kernel_rfl))
      have HCM := Lib.hid hcm; clear hcm
      refine GJ.op hj hdo hr rfl _ hdi (fun K hK => ?_)
      simp only [Act.put, List.setIfInBounds_toArray] at hK ⊢; clear hj hf hdo hdi
      rw [e1] at hK ⊢; clear e1
      go_simp
      exact hK _ _ (fun k v _ _ h => h.keep (Below.refl _ _)) (fun t ht => SS.of (.eq (.int .i64 2)) rfl rfl) (HCM.out.keep (by decide) (fun _ _ h _ => h) (Below.refl _ _))
  · intro listed a w10 hr hj
    have hu : ∀ k, k < 8 → up listed k := fun k hk => all_up (by kernel_rfl) hj.lsize hr k hk
    have hlsz : listed.size = 8 := hj.lsize
    obtain ⟨f, ha, hcm, hf, hdo, hdi⟩ := hj.open2 [194, 195, 196, 193, 197, 198, 18, 19] (by kernel_rfl) (by kernel_rfl)
    simp only [List.foldl_cons, List.foldl_nil, List.setIfInBounds_toArray, List.set_cons_zero, List.set_cons_succ] at ha
    subst ha
    replace hcm : CS w0 999 (fun _ => True) listed f w10 := hcm
    have E7 : f 19 = .int .i64 2 := hf 7 _ _ rfl rfl (hu 7 (by omega))
    have HBR := hcm.below
    clear hf hj hr hu hcm hlsz hdo hdi
    rw [E7]
    clear E7
    generalize f 18 = g18
    generalize f 193 = g193
    generalize f 194 = g194
    generalize f 195 = g195
    generalize f 196 = g196
    generalize f 197 = g197
    generalize f 198 = g198
    exact hQ.out _ _ _ _ _ _ _ _ HBR
set_option maxRecDepth 100000 in
set_option maxHeartbeats 16000000 in
theorem known_r22 (ops : Array Oper) (hops : (Try.f3.body.bind (regOf 22)) = some ops) {w0 : World} {X : Ro} {bx : Nat} {px0 px1 px2 px3 px4 px5 : Option Addr} {kx0 kx1 kx2 kx3 kx4 kx5 : Nat} {Q : Exit → Act → World → Prop} {x0 x2 x3 x4 x5 x6 x7 x8 x9 x10 x11 x12 x13 x14 x15 x16 x17 x18 x19 x20 x21 x22 x23 x24 x25 x26 x27 x28 x29 x30 x31 x32 x33 x34 x35 x36 x37 x38 x39 x40 x41 x42 x43 x44 x45 x46 x47 x48 x49 x50 x51 x52 x53 x54 x55 x56 x57 x58 x59 x60 x61 x62 x63 x64 x65 x66 x67 x68 x69 x70 x71 x72 x73 x74 x75 x76 x77 x78 x79 x80 x81 x82 x83 x84 x85 x86 x87 x88 x89 x90 x91 x92 x93 x94 x95 x96 x97 x98 x99 x100 x101 x102 x103 x104 x105 x106 x107 x108 x109 x110 x111 x112 x113 x114 x115 x116 x117 x118 x119 x120 x121 x122 x123 x124 x125 x126 x127 x128 x129 x130 x131 x132 x133 x134 x135 x136 x137 x138 x139 x140 x141 x142 x143 x144 x145 x146 x147 x148 x149 x150 x151 x152 x153 x154 x155 x156 x157 x158 x159 x160 x161 x162 x163 x164 x165 x166 x167 x168 x169 x170 x171 x172 x173 x174 x175 x176 x177 x178 x179 x180 x181 x182 x183 x184 x185 x186 x187 x188 x189 x190 x191 x192 x193 x194 x195 x196 x197 x198 x199 x200 x201 x202 x203 x204 x205 x206 x207 x208 x209 x210 x211 x212 x213 x214 x215 x216 x217 x218 x219 x220 x221 x222 x223 x224 x225 x226 x227 x228 x229 x230 x231 x232 x233 x234 x235 x236 x237 x238 x239 x240 x241 x242 x243 x244 x245 x246 x247 x248 x249 x250 x251 x252 x253 x254 x255 x256 x257 x258 x259 x260 x261 x262 x263 x264 x265 x266 x267 x268 x269 x270 x271 x272 x273 x274 x275 x276 x277 x278 x279 x280 x281 x282 x283 x284 x285 x286 x287 x288 x289 x290 x291 x292 x293 x294 x295 x296 x297 x298 x299 x300 x301 x302 x303 x304 x305 x306 x307 x308 x309 x310 x311 x312 x313 x314 x315 x316 x317 x318 x319 x320 x321 x322 x323 x324 x325 : Value}
    (BX : Hid (Box w0 bx #[.slice px0 X.hosts.length kx0, .slice px1 X.waves.length kx1, .bool X.rate.neg, .slice px2 X.rate.num.length kx2, .slice px3 X.rate.den.length kx3, .bool X.bound.neg, .slice px4 X.bound.num.length kx4, .slice px5 X.bound.den.length kx5] 28)) (HRX : Hid (IsR w0 (.agg #[.slice px0 X.hosts.length kx0, .slice px1 X.waves.length kx1, .bool X.rate.neg, .slice px2 X.rate.num.length kx2, .slice px3 X.rate.den.length kx3, .bool X.bound.neg, .slice px4 X.bound.num.length kx4, .slice px5 X.bound.den.length kx5]) X)) (HRUN : Hid (runF X (List.replicate 6 false) = ([], 2)))
    (hQ : ∀ (w10 : World) (y20 y199 y200 y201 y202 y203 y204 : Value), Below w0.heap.size w0 w10 → Q .normal ⟨[x0, .pointer (some ⟨bx, 0, none⟩), x2, x3, x4, x5, x6, x7, x8, x9, x10, x11, x12, x13, x14, x15, x16, x17, x18, x19, y20, .int .i64 2, x22, x23, x24, x25, x26, x27, x28, x29, x30, x31, x32, x33, x34, x35, x36, x37, x38, x39, x40, x41, x42, x43, x44, x45, x46, x47, x48, x49, x50, x51, x52, x53, x54, x55, x56, x57, x58, x59, x60, x61, x62, x63, x64, x65, x66, x67, x68, x69, x70, x71, x72, x73, x74, x75, x76, x77, x78, x79, x80, x81, x82, x83, x84, x85, x86, x87, x88, x89, x90, x91, x92, x93, x94, x95, x96, x97, x98, x99, x100, x101, x102, x103, x104, x105, x106, x107, x108, x109, x110, x111, x112, x113, x114, x115, x116, x117, x118, x119, x120, x121, x122, x123, x124, x125, x126, x127, x128, x129, x130, x131, x132, x133, x134, x135, x136, x137, x138, x139, x140, x141, x142, x143, x144, x145, x146, x147, x148, x149, x150, x151, x152, x153, x154, x155, x156, x157, x158, x159, x160, x161, x162, x163, x164, x165, x166, x167, x168, x169, x170, x171, x172, x173, x174, x175, x176, x177, x178, x179, x180, x181, x182, x183, x184, x185, x186, x187, x188, x189, x190, x191, x192, x193, x194, x195, x196, x197, x198, y199, y200, y201, y202, y203, y204, x205, x206, x207, x208, x209, x210, x211, x212, x213, x214, x215, x216, x217, x218, x219, x220, x221, x222, x223, x224, x225, x226, x227, x228, x229, x230, x231, x232, x233, x234, x235, x236, x237, x238, x239, x240, x241, x242, x243, x244, x245, x246, x247, x248, x249, x250, x251, x252, x253, x254, x255, x256, x257, x258, x259, x260, x261, x262, x263, x264, x265, x266, x267, x268, x269, x270, x271, x272, x273, x274, x275, x276, x277, x278, x279, x280, x281, x282, x283, x284, x285, x286, x287, x288, x289, x290, x291, x292, x293, x294, x295, x296, x297, x298, x299, x300, x301, x302, x303, x304, x305, x306, x307, x308, x309, x310, x311, x312, x313, x314, x315, x316, x317, x318, x319, x320, x321, x322, x323, x324, x325].toArray, []⟩ w10) :
    (Code.region 22 ops true).wp Try.prog Q ⟨[x0, .pointer (some ⟨bx, 0, none⟩), x2, x3, x4, x5, x6, x7, x8, x9, x10, x11, x12, x13, x14, x15, x16, x17, x18, x19, x20, x21, x22, x23, x24, x25, x26, x27, x28, x29, x30, x31, x32, x33, x34, x35, x36, x37, x38, x39, x40, x41, x42, x43, x44, x45, x46, x47, x48, x49, x50, x51, x52, x53, x54, x55, x56, x57, x58, x59, x60, x61, x62, x63, x64, x65, x66, x67, x68, x69, x70, x71, x72, x73, x74, x75, x76, x77, x78, x79, x80, x81, x82, x83, x84, x85, x86, x87, x88, x89, x90, x91, x92, x93, x94, x95, x96, x97, x98, x99, x100, x101, x102, x103, x104, x105, x106, x107, x108, x109, x110, x111, x112, x113, x114, x115, x116, x117, x118, x119, x120, x121, x122, x123, x124, x125, x126, x127, x128, x129, x130, x131, x132, x133, x134, x135, x136, x137, x138, x139, x140, x141, x142, x143, x144, x145, x146, x147, x148, x149, x150, x151, x152, x153, x154, x155, x156, x157, x158, x159, x160, x161, x162, x163, x164, x165, x166, x167, x168, x169, x170, x171, x172, x173, x174, x175, x176, x177, x178, x179, x180, x181, x182, x183, x184, x185, x186, x187, x188, x189, x190, x191, x192, x193, x194, x195, x196, x197, x198, x199, x200, x201, x202, x203, x204, x205, x206, x207, x208, x209, x210, x211, x212, x213, x214, x215, x216, x217, x218, x219, x220, x221, x222, x223, x224, x225, x226, x227, x228, x229, x230, x231, x232, x233, x234, x235, x236, x237, x238, x239, x240, x241, x242, x243, x244, x245, x246, x247, x248, x249, x250, x251, x252, x253, x254, x255, x256, x257, x258, x259, x260, x261, x262, x263, x264, x265, x266, x267, x268, x269, x270, x271, x272, x273, x274, x275, x276, x277, x278, x279, x280, x281, x282, x283, x284, x285, x286, x287, x288, x289, x290, x291, x292, x293, x294, x295, x296, x297, x298, x299, x300, x301, x302, x303, x304, x305, x306, x307, x308, x309, x310, x311, x312, x313, x314, x315, x316, x317, x318, x319, x320, x321, x322, x323, x324, x325].toArray, []⟩ w0 := by
  simp only [Try.f3, Option.bind_some, regOf] at hops
  replace hops := Option.some.inj hops
  subst hops
  replace hQ := Lib.hid hQ
  have hmk6 : ∀ W : World, (Instr.makeSlice 32 (.int .i64 6) (.int .i64 6)).run Try.prog W = .ok (.slice (some ⟨W.heap.size, 0, none⟩) 6 6) (W.alloc (.cells #[.bool false, .bool false, .bool false, .bool false, .bool false, .bool false] 4)) := by
    intro W
    have h := run_make_row' (P := Try.prog) 32 4 (.bool false) 1 Try.underlying32 (by kernel_rfl) rfl .i64 .i64 6 (by omega) (by omega) W
    rw [show madeCells #[Value.bool false] 6 = #[.bool false, .bool false, .bool false, .bool false, .bool false, .bool false] from by kernel_rfl] at h
    exact h
  refine wp_region_gj (J := GJ _ (SS 999 (fun κ => match κ with | 0 => (.eq (.agg #[.slice px0 X.hosts.length kx0, .slice px1 X.waves.length kx1, .bool X.rate.neg, .slice px2 X.rate.num.length kx2, .slice px3 X.rate.den.length kx3, .bool X.bound.neg, .slice px4 X.bound.num.length kx4, .slice px5 X.bound.den.length kx5])) | 1 => (kB (List.replicate 6 false)) | 2 => (kP (fun v => ∃ p n c, v = .tuple #[.slice p n c, .int .i64 2])) | 3 => (kP (fun v => ∃ p n c, v = .tuple #[.slice p n c, .int .i64 2])) | 4 => (kP (fun v => ∃ p n c, v = .slice p n c)) | 5 => (.eq (.int .i64 2)) | 6 => (kP (fun v => ∃ p n c, v = .slice p n c)) | 7 => (.eq (.int .i64 2)) | _ => .any)) (CS w0 999 (fun _ => True)) _) (by kernel_rfl) ?_ ?_ (GJ.start CS.start)
  · intro listed a w9 i hr hj
    obtain ⟨hi12, hun, _, _, _⟩ := ready_mem hr
    have h12 : i ∈ List.range 8 := List.mem_range.2 hi12
    simp only [List.range, List.range.loop, List.mem_cons, List.not_mem_nil, or_false] at h12
    obtain ⟨f, ha, hcm, hf, hdo, hdi⟩ := hj.open2 [200, 201, 202, 199, 203, 204, 20, 21] (by kernel_rfl) (by kernel_rfl)
    simp only [List.foldl_cons, List.foldl_nil, List.setIfInBounds_toArray, List.set_cons_zero, List.set_cons_succ] at ha
    subst ha
    replace hcm : CS w0 999 (fun _ => True) listed f w9 := hcm
    have hlsz : listed.size = 8 := hj.lsize
    rcases h12 with rfl | rfl | rfl | rfl | rfl | rfl | rfl | rfl
    · have nS : ¬ up listed 999 := not_up_ge (by rw [hlsz]; decide)
      have HCM := Lib.hid hcm; clear hcm
      have hcs := ((BX.out.after HCM.out.below).cells8)
      obtain ⟨d0, d1, d2, d3, d4, d5, d6, d7⟩ := hcs
      have dl := (BX.out.after HCM.out.below).lt
      refine GJ.op hj hdo hr rfl _ hdi (fun K hK => ?_)
      simp only [Act.put, List.setIfInBounds_toArray] at hK ⊢; clear hj hf hdo hdi
      go_simp
      exact hK _ _ (fun k v _ _ h => h.keep (Below.refl _ _)) (fun t ht => SS.of (.eq (.agg #[.slice px0 X.hosts.length kx0, .slice px1 X.waves.length kx1, .bool X.rate.neg, .slice px2 X.rate.num.length kx2, .slice px3 X.rate.den.length kx3, .bool X.bound.neg, .slice px4 X.bound.num.length kx4, .slice px5 X.bound.den.length kx5])) rfl rfl) (HCM.out.keep (by decide) (fun _ _ h _ => h) (Below.refl _ _))
    · have nS : ¬ up listed 999 := not_up_ge (by rw [hlsz]; decide)
      have HCM := Lib.hid hcm; clear hcm
      refine GJ.op hj hdo hr rfl _ hdi (fun K hK => ?_)
      simp only [Act.put, List.setIfInBounds_toArray] at hK ⊢; clear hj hf hdo hdi
      go_simp
      exact hK _ _ (fun k v _ _ h => h.keep (held_alloc (Below.refl _ _))) (fun t ht => SS.of (kB (List.replicate 6 false)) rfl (fun _ => SlB.lit (l := List.replicate 6 false) (Box.new _ _ _) rfl (by decide))) (HCM.out.keep (by decide) (fun _ _ h _ => h) (held_alloc (Below.refl _ _)))
    · have nS : ¬ up listed 999 := not_up_ge (by rw [hlsz]; decide)
      have e1 : f 200 = .agg #[.slice px0 X.hosts.length kx0, .slice px1 X.waves.length kx1, .bool X.rate.neg, .slice px2 X.rate.num.length kx2, .slice px3 X.rate.den.length kx3, .bool X.bound.neg, .slice px4 X.bound.num.length kx4, .slice px5 X.bound.den.length kx5] := hf 0 _ _ rfl rfl (up_dep hr (by kernel_rfl))
      have s2 : SlB w9 (f 201) (List.replicate 6 false) := (hf 1 _ _ rfl rfl (up_dep hr (by kernel_rfl))) nS
      have HCM := Lib.hid hcm; clear hcm
      refine GJ.op hj hdo hr rfl _ hdi (fun K hK => ?_)
      simp only [Act.put, List.setIfInBounds_toArray] at hK ⊢; clear hj hf hdo hdi
      rw [e1] at hK ⊢; clear e1
      go_simp
      refine (Run_c _ _ _ X _ (HRX.out.after HCM.out.below) s2).mono ?_
      rw [HRUN.out]
      rintro e w11 ⟨v11, rfl, hv, hb⟩
      obtain ⟨pp, cc, rfl, _⟩ := (show SlD w11 v11 [] from hv)
      exact hK _ _ (fun k v _ _ h => h.keep (hb)) (fun t ht => SS.of (kP (fun v => ∃ p n c, v = .tuple #[.slice p n c, .int .i64 2])) rfl (fun _ => ⟨_, _, _, rfl⟩)) (HCM.out.keep (by decide) (fun _ _ h _ => h) (hb))
    · have nS : ¬ up listed 999 := not_up_ge (by rw [hlsz]; decide)
      have s1 : (fun v => ∃ p n c, v = .tuple #[.slice p n c, .int .i64 2]) (f 202) := (hf 2 _ _ rfl rfl (up_dep hr (by kernel_rfl))) nS
      have HCM := Lib.hid hcm; clear hcm
      obtain ⟨pp, nn, cc, zz⟩ := s1
      refine GJ.op hj hdo hr rfl _ hdi (fun K hK => ?_)
      simp only [Act.put, List.setIfInBounds_toArray] at hK ⊢; clear hj hf hdo hdi
      rw [zz] at hK ⊢
      go_simp
      exact hK _ _ (fun k v _ _ h => h.keep (Below.refl _ _)) (fun t ht => SS.of (kP (fun v => ∃ p n c, v = .tuple #[.slice p n c, .int .i64 2])) rfl (fun _ => ⟨_, _, _, rfl⟩)) (HCM.out.keep (by decide) (fun _ _ h _ => h) (Below.refl _ _))
    · have nS : ¬ up listed 999 := not_up_ge (by rw [hlsz]; decide)
      have s1 : (fun v => ∃ p n c, v = .tuple #[.slice p n c, .int .i64 2]) (f 199) := (hf 3 _ _ rfl rfl (up_dep hr (by kernel_rfl))) nS
      have HCM := Lib.hid hcm; clear hcm
      obtain ⟨pp, nn, cc, zz⟩ := s1
      refine GJ.op hj hdo hr rfl _ hdi (fun K hK => ?_)
      simp only [Act.put, List.setIfInBounds_toArray] at hK ⊢; clear hj hf hdo hdi
      rw [zz] at hK ⊢
      go_simp
      exact hK _ _ (fun k v _ _ h => h.keep (Below.refl _ _)) (fun t ht => SS.of (kP (fun v => ∃ p n c, v = .slice p n c)) rfl (fun _ => ⟨_, _, _, rfl⟩)) (HCM.out.keep (by decide) (fun _ _ h _ => h) (Below.refl _ _))
    · have nS : ¬ up listed 999 := not_up_ge (by rw [hlsz]; decide)
      have s1 : (fun v => ∃ p n c, v = .tuple #[.slice p n c, .int .i64 2]) (f 199) := (hf 3 _ _ rfl rfl (up_dep hr (by kernel_rfl))) nS
      have HCM := Lib.hid hcm; clear hcm
      obtain ⟨pp, nn, cc, zz⟩ := s1
      refine GJ.op hj hdo hr rfl _ hdi (fun K hK => ?_)
      simp only [Act.put, List.setIfInBounds_toArray] at hK ⊢; clear hj hf hdo hdi
      rw [zz] at hK ⊢
      go_simp
      exact hK _ _ (fun k v _ _ h => h.keep (Below.refl _ _)) (fun t ht => SS.of (.eq (.int .i64 2)) rfl rfl) (HCM.out.keep (by decide) (fun _ _ h _ => h) (Below.refl _ _))
    · have nS : ¬ up listed 999 := not_up_ge (by rw [hlsz]; decide)
      have s1 : (fun v => ∃ p n c, v = .slice p n c) (f 203) := (hf 4 _ _ rfl rfl (up_dep hr (by kernel_rfl))) nS
      have HCM := Lib.hid hcm; clear hcm
      obtain ⟨pp, nn, cc, zz⟩ := s1
      refine GJ.op hj hdo hr rfl _ hdi (fun K hK => ?_)
      simp only [Act.put, List.setIfInBounds_toArray] at hK ⊢; clear hj hf hdo hdi
      rw [zz] at hK ⊢
      go_simp
      exact hK _ _ (fun k v _ _ h => h.keep (Below.refl _ _)) (fun t ht => SS.of (kP (fun v => ∃ p n c, v = .slice p n c)) rfl (fun _ => ⟨_, _, _, rfl⟩)) (HCM.out.keep (by decide) (fun _ _ h _ => h) (Below.refl _ _))
    · have nS : ¬ up listed 999 := not_up_ge (by rw [hlsz]; decide)
      have e1 : f 204 = .int .i64 2 := hf 5 _ _ rfl rfl (up_dep hr (by kernel_rfl))
      have HCM := Lib.hid hcm; clear hcm
      refine GJ.op hj hdo hr rfl _ hdi (fun K hK => ?_)
      simp only [Act.put, List.setIfInBounds_toArray] at hK ⊢; clear hj hf hdo hdi
      rw [e1] at hK ⊢; clear e1
      go_simp
      exact hK _ _ (fun k v _ _ h => h.keep (Below.refl _ _)) (fun t ht => SS.of (.eq (.int .i64 2)) rfl rfl) (HCM.out.keep (by decide) (fun _ _ h _ => h) (Below.refl _ _))
  · intro listed a w10 hr hj
    have hu : ∀ k, k < 8 → up listed k := fun k hk => all_up (by kernel_rfl) hj.lsize hr k hk
    have hlsz : listed.size = 8 := hj.lsize
    obtain ⟨f, ha, hcm, hf, hdo, hdi⟩ := hj.open2 [200, 201, 202, 199, 203, 204, 20, 21] (by kernel_rfl) (by kernel_rfl)
    simp only [List.foldl_cons, List.foldl_nil, List.setIfInBounds_toArray, List.set_cons_zero, List.set_cons_succ] at ha
    subst ha
    replace hcm : CS w0 999 (fun _ => True) listed f w10 := hcm
    have E7 : f 21 = .int .i64 2 := hf 7 _ _ rfl rfl (hu 7 (by omega))
    have HBR := hcm.below
    clear hf hj hr hu hcm hlsz hdo hdi
    rw [E7]
    clear E7
    generalize f 20 = g20
    generalize f 199 = g199
    generalize f 200 = g200
    generalize f 201 = g201
    generalize f 202 = g202
    generalize f 203 = g203
    generalize f 204 = g204
    exact hQ.out _ _ _ _ _ _ _ _ HBR
set_option maxRecDepth 100000 in
set_option maxHeartbeats 16000000 in
theorem known_r24 (ops : Array Oper) (hops : (Try.f3.body.bind (regOf 24)) = some ops) {w0 : World} {X : Ro} {bx : Nat} {px0 px1 px2 px3 px4 px5 : Option Addr} {kx0 kx1 kx2 kx3 kx4 kx5 : Nat} {Q : Exit → Act → World → Prop} {x0 x2 x3 x4 x5 x6 x7 x8 x9 x10 x11 x12 x13 x14 x15 x16 x17 x18 x19 x20 x21 x22 x23 x24 x25 x26 x27 x28 x29 x30 x31 x32 x33 x34 x35 x36 x37 x38 x39 x40 x41 x42 x43 x44 x45 x46 x47 x48 x49 x50 x51 x52 x53 x54 x55 x56 x57 x58 x59 x60 x61 x62 x63 x64 x65 x66 x67 x68 x69 x70 x71 x72 x73 x74 x75 x76 x77 x78 x79 x80 x81 x82 x83 x84 x85 x86 x87 x88 x89 x90 x91 x92 x93 x94 x95 x96 x97 x98 x99 x100 x101 x102 x103 x104 x105 x106 x107 x108 x109 x110 x111 x112 x113 x114 x115 x116 x117 x118 x119 x120 x121 x122 x123 x124 x125 x126 x127 x128 x129 x130 x131 x132 x133 x134 x135 x136 x137 x138 x139 x140 x141 x142 x143 x144 x145 x146 x147 x148 x149 x150 x151 x152 x153 x154 x155 x156 x157 x158 x159 x160 x161 x162 x163 x164 x165 x166 x167 x168 x169 x170 x171 x172 x173 x174 x175 x176 x177 x178 x179 x180 x181 x182 x183 x184 x185 x186 x187 x188 x189 x190 x191 x192 x193 x194 x195 x196 x197 x198 x199 x200 x201 x202 x203 x204 x205 x206 x207 x208 x209 x210 x211 x212 x213 x214 x215 x216 x217 x218 x219 x220 x221 x222 x223 x224 x225 x226 x227 x228 x229 x230 x231 x232 x233 x234 x235 x236 x237 x238 x239 x240 x241 x242 x243 x244 x245 x246 x247 x248 x249 x250 x251 x252 x253 x254 x255 x256 x257 x258 x259 x260 x261 x262 x263 x264 x265 x266 x267 x268 x269 x270 x271 x272 x273 x274 x275 x276 x277 x278 x279 x280 x281 x282 x283 x284 x285 x286 x287 x288 x289 x290 x291 x292 x293 x294 x295 x296 x297 x298 x299 x300 x301 x302 x303 x304 x305 x306 x307 x308 x309 x310 x311 x312 x313 x314 x315 x316 x317 x318 x319 x320 x321 x322 x323 x324 x325 : Value}
    (BX : Hid (Box w0 bx #[.slice px0 X.hosts.length kx0, .slice px1 X.waves.length kx1, .bool X.rate.neg, .slice px2 X.rate.num.length kx2, .slice px3 X.rate.den.length kx3, .bool X.bound.neg, .slice px4 X.bound.num.length kx4, .slice px5 X.bound.den.length kx5] 28)) (HRX : Hid (IsR w0 (.agg #[.slice px0 X.hosts.length kx0, .slice px1 X.waves.length kx1, .bool X.rate.neg, .slice px2 X.rate.num.length kx2, .slice px3 X.rate.den.length kx3, .bool X.bound.neg, .slice px4 X.bound.num.length kx4, .slice px5 X.bound.den.length kx5]) X)) (HCH : Hid (chanceF X (fr false 3 2) = (F0, 2)))
    (hQ : ∀ (w10 : World) (bv : Nat) (y211 y212 y213 y214 y215 y216 : Value), w0.heap.size ≤ bv → Below w0.heap.size w0 w10 → Q .normal ⟨[x0, .pointer (some ⟨bx, 0, none⟩), x2, x3, x4, x5, x6, x7, x8, x9, x10, x11, x12, x13, x14, x15, x16, x17, x18, x19, x20, x21, x22, x23, .pointer (some ⟨bv, 0, none⟩), .int .i64 2, x26, x27, x28, x29, x30, x31, x32, x33, x34, x35, x36, x37, x38, x39, x40, x41, x42, x43, x44, x45, x46, x47, x48, x49, x50, x51, x52, x53, x54, x55, x56, x57, x58, x59, x60, x61, x62, x63, x64, x65, x66, x67, x68, x69, x70, x71, x72, x73, x74, x75, x76, x77, x78, x79, x80, x81, x82, x83, x84, x85, x86, x87, x88, x89, x90, x91, x92, x93, x94, x95, x96, x97, x98, x99, x100, x101, x102, x103, x104, x105, x106, x107, x108, x109, x110, x111, x112, x113, x114, x115, x116, x117, x118, x119, x120, x121, x122, x123, x124, x125, x126, x127, x128, x129, x130, x131, x132, x133, x134, x135, x136, x137, x138, x139, x140, x141, x142, x143, x144, x145, x146, x147, x148, x149, x150, x151, x152, x153, x154, x155, x156, x157, x158, x159, x160, x161, x162, x163, x164, x165, x166, x167, x168, x169, x170, x171, x172, x173, x174, x175, x176, x177, x178, x179, x180, x181, x182, x183, x184, x185, x186, x187, x188, x189, x190, x191, x192, x193, x194, x195, x196, x197, x198, x199, x200, x201, x202, x203, x204, x205, x206, x207, x208, x209, x210, y211, y212, y213, y214, y215, y216, x217, x218, x219, x220, x221, x222, x223, x224, x225, x226, x227, x228, x229, x230, x231, x232, x233, x234, x235, x236, x237, x238, x239, x240, x241, x242, x243, x244, x245, x246, x247, x248, x249, x250, x251, x252, x253, x254, x255, x256, x257, x258, x259, x260, x261, x262, x263, x264, x265, x266, x267, x268, x269, x270, x271, x272, x273, x274, x275, x276, x277, x278, x279, x280, x281, x282, x283, x284, x285, x286, x287, x288, x289, x290, x291, x292, x293, x294, x295, x296, x297, x298, x299, x300, x301, x302, x303, x304, x305, x306, x307, x308, x309, x310, x311, x312, x313, x314, x315, x316, x317, x318, x319, x320, x321, x322, x323, x324, x325].toArray, []⟩ w10) :
    (Code.region 24 ops true).wp Try.prog Q ⟨[x0, .pointer (some ⟨bx, 0, none⟩), x2, x3, x4, x5, x6, x7, x8, x9, x10, x11, x12, x13, x14, x15, x16, x17, x18, x19, x20, x21, x22, x23, x24, x25, x26, x27, x28, x29, x30, x31, x32, x33, x34, x35, x36, x37, x38, x39, x40, x41, x42, x43, x44, x45, x46, x47, x48, x49, x50, x51, x52, x53, x54, x55, x56, x57, x58, x59, x60, x61, x62, x63, x64, x65, x66, x67, x68, x69, x70, x71, x72, x73, x74, x75, x76, x77, x78, x79, x80, x81, x82, x83, x84, x85, x86, x87, x88, x89, x90, x91, x92, x93, x94, x95, x96, x97, x98, x99, x100, x101, x102, x103, x104, x105, x106, x107, x108, x109, x110, x111, x112, x113, x114, x115, x116, x117, x118, x119, x120, x121, x122, x123, x124, x125, x126, x127, x128, x129, x130, x131, x132, x133, x134, x135, x136, x137, x138, x139, x140, x141, x142, x143, x144, x145, x146, x147, x148, x149, x150, x151, x152, x153, x154, x155, x156, x157, x158, x159, x160, x161, x162, x163, x164, x165, x166, x167, x168, x169, x170, x171, x172, x173, x174, x175, x176, x177, x178, x179, x180, x181, x182, x183, x184, x185, x186, x187, x188, x189, x190, x191, x192, x193, x194, x195, x196, x197, x198, x199, x200, x201, x202, x203, x204, x205, x206, x207, x208, x209, x210, x211, x212, x213, x214, x215, x216, x217, x218, x219, x220, x221, x222, x223, x224, x225, x226, x227, x228, x229, x230, x231, x232, x233, x234, x235, x236, x237, x238, x239, x240, x241, x242, x243, x244, x245, x246, x247, x248, x249, x250, x251, x252, x253, x254, x255, x256, x257, x258, x259, x260, x261, x262, x263, x264, x265, x266, x267, x268, x269, x270, x271, x272, x273, x274, x275, x276, x277, x278, x279, x280, x281, x282, x283, x284, x285, x286, x287, x288, x289, x290, x291, x292, x293, x294, x295, x296, x297, x298, x299, x300, x301, x302, x303, x304, x305, x306, x307, x308, x309, x310, x311, x312, x313, x314, x315, x316, x317, x318, x319, x320, x321, x322, x323, x324, x325].toArray, []⟩ w0 := by
  simp only [Try.f3, Option.bind_some, regOf] at hops
  replace hops := Option.some.inj hops
  subst hops
  replace hQ := Lib.hid hQ
  refine wp_region_gj (J := GJ _ (SS 7 (fun κ => match κ with | 0 => (.eq (.agg #[.slice px0 X.hosts.length kx0, .slice px1 X.waves.length kx1, .bool X.rate.neg, .slice px2 X.rate.num.length kx2, .slice px3 X.rate.den.length kx3, .bool X.bound.neg, .slice px4 X.bound.num.length kx4, .slice px5 X.bound.den.length kx5])) | 1 => (kF (fr false 3 2)) | 2 => (kU (F0) (2)) | 3 => (kU (F0) (2)) | 4 => (kF (F0)) | 5 => (.eq (.int .i64 2)) | 6 => .any | 8 => (.eq (.int .i64 2)) | _ => .any)) (CA w0 6 7 24 (fun w b => Box w b #[.bool false, .slice none 0 0, .slice none 0 0] 26) (fun _ _ => True)) _) (by kernel_rfl) ?_ ?_ (GJ.start CA.start)
  · intro listed a w9 i hr hj
    obtain ⟨hi12, hun, _, _, _⟩ := ready_mem hr
    have h12 : i ∈ List.range 9 := List.mem_range.2 hi12
    simp only [List.range, List.range.loop, List.mem_cons, List.not_mem_nil, or_false] at h12
    obtain ⟨f, ha, hcm, hf, hdo, hdi⟩ := hj.open2 [212, 213, 214, 211, 215, 216, 24, 25] (by kernel_rfl) (by kernel_rfl)
    simp only [List.foldl_cons, List.foldl_nil, List.setIfInBounds_toArray, List.set_cons_zero, List.set_cons_succ] at ha
    subst ha
    replace hcm : CA w0 6 7 24 (fun w b => Box w b #[.bool false, .slice none 0 0, .slice none 0 0] 26) (fun _ _ => True) listed f w9 := hcm
    have hlsz : listed.size = 9 := hj.lsize
    rcases h12 with rfl | rfl | rfl | rfl | rfl | rfl | rfl | rfl | rfl
    · have nS : ¬ up listed 7 := fun h => not_up hun (hj.closed 7 0 h (by kernel_rfl))
      have HCM := Lib.hid hcm; clear hcm
      have hcs := ((BX.out.after HCM.out.below).cells8)
      obtain ⟨d0, d1, d2, d3, d4, d5, d6, d7⟩ := hcs
      have dl := (BX.out.after HCM.out.below).lt
      refine GJ.op hj hdo hr rfl _ hdi (fun K hK => ?_)
      simp only [Act.put, List.setIfInBounds_toArray] at hK ⊢; clear hj hf hdo hdi
      go_simp
      exact hK _ _ (fun k v _ _ h => h.keep (Below.refl _ _)) (fun t ht => SS.of (.eq (.agg #[.slice px0 X.hosts.length kx0, .slice px1 X.waves.length kx1, .bool X.rate.neg, .slice px2 X.rate.num.length kx2, .slice px3 X.rate.den.length kx3, .bool X.bound.neg, .slice px4 X.bound.num.length kx4, .slice px5 X.bound.den.length kx5])) rfl rfl) (HCM.out.keep (by decide) (by decide) (by rfl) (stayBox _ _) stayTrue (Below.refl _ _))
    · have nS : ¬ up listed 7 := fun h => not_up hun (hj.closed 7 1 h (by kernel_rfl))
      have HCM := Lib.hid hcm; clear hcm
      refine GJ.op hj hdo hr rfl _ hdi (fun K hK => ?_)
      simp only [Act.put, List.setIfInBounds_toArray] at hK ⊢; clear hj hf hdo hdi
      go_simp
      refine (of32_c _ 3 2 (by omega) (by omega) (by omega) (by omega)).mono ?_
      rw [of_32]
      rintro e w11 ⟨v11, rfl, hv, hb⟩
      exact hK _ _ (fun k v _ _ h => h.keep (hb)) (fun t ht => SS.of (kF (fr false 3 2)) rfl (fun _ => hv)) (HCM.out.keep (by decide) (by decide) (by rfl) (stayBox _ _) stayTrue (hb))
    · have nS : ¬ up listed 7 := fun h => not_up hun (hj.closed 7 2 h (by kernel_rfl))
      have e1 : f 212 = .agg #[.slice px0 X.hosts.length kx0, .slice px1 X.waves.length kx1, .bool X.rate.neg, .slice px2 X.rate.num.length kx2, .slice px3 X.rate.den.length kx3, .bool X.bound.neg, .slice px4 X.bound.num.length kx4, .slice px5 X.bound.den.length kx5] := hf 0 _ _ rfl rfl (up_dep hr (by kernel_rfl))
      have s2 : IsF w9 (f 213) (fr false 3 2) := (hf 1 _ _ rfl rfl (up_dep hr (by kernel_rfl))) nS
      have HCM := Lib.hid hcm; clear hcm
      refine GJ.op hj hdo hr rfl _ hdi (fun K hK => ?_)
      simp only [Act.put, List.setIfInBounds_toArray] at hK ⊢; clear hj hf hdo hdi
      rw [e1] at hK ⊢; clear e1
      go_simp
      refine (Chance_c _ _ _ X _ (HRX.out.after HCM.out.below) s2).mono ?_
      rw [HCH.out]
      rintro e w11 ⟨v11, rfl, hv, hb⟩
      have hv : IsF w11 v11 (F0) := hv
      exact hK _ _ (fun k v _ _ h => h.keep (hb)) (fun t ht => SS.of (kU (F0) (2)) rfl ⟨⟨_, rfl⟩, fun _ => ⟨_, rfl, hv⟩⟩) (HCM.out.keep (by decide) (by decide) (by rfl) (stayBox _ _) stayTrue (hb))
    · have nS : ¬ up listed 7 := fun h => not_up hun (hj.closed 7 3 h (by kernel_rfl))
      have s1 : ∃ u, f 214 = .tuple #[u, .int .i64 2] ∧ IsF w9 u (F0) := (hf 2 _ _ rfl rfl (up_dep hr (by kernel_rfl))).2 nS
      have HCM := Lib.hid hcm; clear hcm
      obtain ⟨uu, zz, hu⟩ := s1
      refine GJ.op hj hdo hr rfl _ hdi (fun K hK => ?_)
      simp only [Act.put, List.setIfInBounds_toArray] at hK ⊢; clear hj hf hdo hdi
      rw [zz] at hK ⊢
      go_simp
      exact hK _ _ (fun k v _ _ h => h.keep (Below.refl _ _)) (fun t ht => SS.of (kU (F0) (2)) rfl ⟨⟨_, rfl⟩, fun _ => ⟨_, rfl, hu⟩⟩) (HCM.out.keep (by decide) (by decide) (by rfl) (stayBox _ _) stayTrue (Below.refl _ _))
    · have nS : ¬ up listed 7 := fun h => not_up hun (hj.closed 7 4 h (by kernel_rfl))
      have s1 : ∃ u, f 211 = .tuple #[u, .int .i64 2] ∧ IsF w9 u (F0) := (hf 3 _ _ rfl rfl (up_dep hr (by kernel_rfl))).2 nS
      have HCM := Lib.hid hcm; clear hcm
      obtain ⟨uu, zz, hu⟩ := s1
      refine GJ.op hj hdo hr rfl _ hdi (fun K hK => ?_)
      simp only [Act.put, List.setIfInBounds_toArray] at hK ⊢; clear hj hf hdo hdi
      rw [zz] at hK ⊢
      go_simp
      exact hK _ _ (fun k v _ _ h => h.keep (Below.refl _ _)) (fun t ht => SS.of (kF (F0)) rfl (fun _ => hu)) (HCM.out.keep (by decide) (by decide) (by rfl) (stayBox _ _) stayTrue (Below.refl _ _))
    · have s1 : ∃ u, f 211 = .tuple #[u, .int .i64 (2)] := (hf 3 _ _ rfl rfl (up_dep hr (by kernel_rfl))).1
      have HCM := Lib.hid hcm; clear hcm
      obtain ⟨uu, zz⟩ := s1
      refine GJ.op hj hdo hr rfl _ hdi (fun K hK => ?_)
      simp only [Act.put, List.setIfInBounds_toArray] at hK ⊢; clear hj hf hdo hdi
      rw [zz] at hK ⊢
      go_simp
      exact hK _ _ (fun k v _ _ h => h.keep (Below.refl _ _)) (fun t ht => SS.of (.eq (.int .i64 2)) rfl rfl) (HCM.out.keep (by decide) (by decide) (by rfl) (stayBox _ _) stayTrue (Below.refl _ _))
    · have nS : ¬ up listed 7 := fun h => not_up hun (hj.closed 7 6 h (by kernel_rfl))
      have HCM := Lib.hid hcm; clear hcm
      refine GJ.op hj hdo hr rfl _ hdi (fun K hK => ?_)
      simp only [Act.put, List.setIfInBounds_toArray] at hK ⊢; clear hj hf hdo hdi
      go_simp
      exact hK _ _ (fun k v _ _ h => h.keep (held_alloc (Below.refl _ _))) (fun t ht => SS.of .any rfl trivial) (HCM.out.alloc (by decide) nS (held_alloc (Below.refl _ _)) (by rfl) HCM.out.below.size (Box.new _ _ _))
    · have nS : ¬ up listed 7 := not_up hun
      have s1 : IsF w9 (f 215) (F0) := (hf 4 _ _ rfl rfl (up_dep hr (by kernel_rfl))) nS
      have HCM := Lib.hid hcm; clear hcm
      obtain ⟨bv, ev, hBv, hzv, _⟩ := HCM.out.var (up_dep hr (by kernel_rfl))
      have hbx := hzv nS
      obtain ⟨va, vb, zz, h1, h2⟩ := s1
      obtain ⟨pp, cc, rfl, _, _⟩ := h1.shape
      obtain ⟨qq, dd, rfl, _, _⟩ := h2.shape
      refine GJ.op hj hdo hr rfl _ hdi (fun K hK => ?_)
      simp only [Act.put] at hK ⊢; clear hj hf hdo hdi
      rw [zz] at hK ⊢
      rw [ev] at hK ⊢
      have kx0 := hbx.cell 0
      have kx1 := hbx.cell 1
      have kx2 := hbx.cell 2
      have fx0 := hbx.frozen 0
      have fx1 := hbx.frozen 1
      have fx2 := hbx.frozen 2
      have yl := hbx.lt
      have HBX := Lib.hid hbx
      clear hbx hzv
      go_simp
      exact hK undef _ (fun k v _ _ h => h.put (up_self (by rw [hlsz]; decide))) (fun t ht => by cases ht) (CA.put (by rw [hlsz]; decide) (((HCM.out.below.setCell hBv _).setCell hBv _).setCell hBv _) (by rfl) hBv trivial)
    · have e1 : f 216 = .int .i64 2 := hf 5 _ _ rfl rfl (up_dep hr (by kernel_rfl))
      have HCM := Lib.hid hcm; clear hcm
      refine GJ.op hj hdo hr rfl _ hdi (fun K hK => ?_)
      simp only [Act.put, List.setIfInBounds_toArray] at hK ⊢; clear hj hf hdo hdi
      rw [e1] at hK ⊢; clear e1
      go_simp
      exact hK _ _ (fun k v _ _ h => h.keep (Below.refl _ _)) (fun t ht => SS.of (.eq (.int .i64 2)) rfl rfl) (HCM.out.keep (by decide) (by decide) (by rfl) (stayBox _ _) stayTrue (Below.refl _ _))
  · intro listed a w10 hr hj
    have hu : ∀ k, k < 9 → up listed k := fun k hk => all_up (by kernel_rfl) hj.lsize hr k hk
    have hlsz : listed.size = 9 := hj.lsize
    obtain ⟨f, ha, hcm, hf, hdo, hdi⟩ := hj.open2 [212, 213, 214, 211, 215, 216, 24, 25] (by kernel_rfl) (by kernel_rfl)
    simp only [List.foldl_cons, List.foldl_nil, List.setIfInBounds_toArray, List.set_cons_zero, List.set_cons_succ] at ha
    subst ha
    replace hcm : CA w0 6 7 24 (fun w b => Box w b #[.bool false, .slice none 0 0, .slice none 0 0] 26) (fun _ _ => True) listed f w10 := hcm
    have E8 : f 25 = .int .i64 2 := hf 8 _ _ rfl rfl (hu 8 (by omega))
    obtain ⟨bv, EV, hBV, _, hNV⟩ := hcm.var (hu 6 (by omega))
    have HBR := hcm.below
    clear hf hj hr hu hcm hlsz hdo hdi hNV
    rw [E8]
    clear E8
    rw [EV]
    clear EV
    generalize f 211 = g211
    generalize f 212 = g212
    generalize f 213 = g213
    generalize f 214 = g214
    generalize f 215 = g215
    generalize f 216 = g216
    exact hQ.out _ _ _ _ _ _ _ _ hBV HBR
set_option maxRecDepth 100000 in
set_option maxHeartbeats 16000000 in
theorem known_r25 (ops : Array Oper) (hops : (Try.f3.body.bind (regOf 25)) = some ops) {w0 : World} {X : Ro} {bx : Nat} {px0 px1 px2 px3 px4 px5 : Option Addr} {kx0 kx1 kx2 kx3 kx4 kx5 : Nat} {Q : Exit → Act → World → Prop} {x0 x2 x3 x4 x5 x6 x7 x8 x9 x10 x11 x12 x13 x14 x15 x16 x17 x18 x19 x20 x21 x22 x23 x24 x25 x26 x27 x28 x29 x30 x31 x32 x33 x34 x35 x36 x37 x38 x39 x40 x41 x42 x43 x44 x45 x46 x47 x48 x49 x50 x51 x52 x53 x54 x55 x56 x57 x58 x59 x60 x61 x62 x63 x64 x65 x66 x67 x68 x69 x70 x71 x72 x73 x74 x75 x76 x77 x78 x79 x80 x81 x82 x83 x84 x85 x86 x87 x88 x89 x90 x91 x92 x93 x94 x95 x96 x97 x98 x99 x100 x101 x102 x103 x104 x105 x106 x107 x108 x109 x110 x111 x112 x113 x114 x115 x116 x117 x118 x119 x120 x121 x122 x123 x124 x125 x126 x127 x128 x129 x130 x131 x132 x133 x134 x135 x136 x137 x138 x139 x140 x141 x142 x143 x144 x145 x146 x147 x148 x149 x150 x151 x152 x153 x154 x155 x156 x157 x158 x159 x160 x161 x162 x163 x164 x165 x166 x167 x168 x169 x170 x171 x172 x173 x174 x175 x176 x177 x178 x179 x180 x181 x182 x183 x184 x185 x186 x187 x188 x189 x190 x191 x192 x193 x194 x195 x196 x197 x198 x199 x200 x201 x202 x203 x204 x205 x206 x207 x208 x209 x210 x211 x212 x213 x214 x215 x216 x217 x218 x219 x220 x221 x222 x223 x224 x225 x226 x227 x228 x229 x230 x231 x232 x233 x234 x235 x236 x237 x238 x239 x240 x241 x242 x243 x244 x245 x246 x247 x248 x249 x250 x251 x252 x253 x254 x255 x256 x257 x258 x259 x260 x261 x262 x263 x264 x265 x266 x267 x268 x269 x270 x271 x272 x273 x274 x275 x276 x277 x278 x279 x280 x281 x282 x283 x284 x285 x286 x287 x288 x289 x290 x291 x292 x293 x294 x295 x296 x297 x298 x299 x300 x301 x302 x303 x304 x305 x306 x307 x308 x309 x310 x311 x312 x313 x314 x315 x316 x317 x318 x319 x320 x321 x322 x323 x324 x325 : Value}
    (BX : Hid (Box w0 bx #[.slice px0 X.hosts.length kx0, .slice px1 X.waves.length kx1, .bool X.rate.neg, .slice px2 X.rate.num.length kx2, .slice px3 X.rate.den.length kx3, .bool X.bound.neg, .slice px4 X.bound.num.length kx4, .slice px5 X.bound.den.length kx5] 28)) (HRX : Hid (IsR w0 (.agg #[.slice px0 X.hosts.length kx0, .slice px1 X.waves.length kx1, .bool X.rate.neg, .slice px2 X.rate.num.length kx2, .slice px3 X.rate.den.length kx3, .bool X.bound.neg, .slice px4 X.bound.num.length kx4, .slice px5 X.bound.den.length kx5]) X)) (HCH : Hid (chanceF X (fr false 1 1001) = (F0, 2)))
    (hQ : ∀ (w10 : World) (bv : Nat) (y217 y218 y219 y220 y221 y222 : Value), w0.heap.size ≤ bv → Below w0.heap.size w0 w10 → Q .normal ⟨[x0, .pointer (some ⟨bx, 0, none⟩), x2, x3, x4, x5, x6, x7, x8, x9, x10, x11, x12, x13, x14, x15, x16, x17, x18, x19, x20, x21, x22, x23, x24, x25, .pointer (some ⟨bv, 0, none⟩), .int .i64 2, x28, x29, x30, x31, x32, x33, x34, x35, x36, x37, x38, x39, x40, x41, x42, x43, x44, x45, x46, x47, x48, x49, x50, x51, x52, x53, x54, x55, x56, x57, x58, x59, x60, x61, x62, x63, x64, x65, x66, x67, x68, x69, x70, x71, x72, x73, x74, x75, x76, x77, x78, x79, x80, x81, x82, x83, x84, x85, x86, x87, x88, x89, x90, x91, x92, x93, x94, x95, x96, x97, x98, x99, x100, x101, x102, x103, x104, x105, x106, x107, x108, x109, x110, x111, x112, x113, x114, x115, x116, x117, x118, x119, x120, x121, x122, x123, x124, x125, x126, x127, x128, x129, x130, x131, x132, x133, x134, x135, x136, x137, x138, x139, x140, x141, x142, x143, x144, x145, x146, x147, x148, x149, x150, x151, x152, x153, x154, x155, x156, x157, x158, x159, x160, x161, x162, x163, x164, x165, x166, x167, x168, x169, x170, x171, x172, x173, x174, x175, x176, x177, x178, x179, x180, x181, x182, x183, x184, x185, x186, x187, x188, x189, x190, x191, x192, x193, x194, x195, x196, x197, x198, x199, x200, x201, x202, x203, x204, x205, x206, x207, x208, x209, x210, x211, x212, x213, x214, x215, x216, y217, y218, y219, y220, y221, y222, x223, x224, x225, x226, x227, x228, x229, x230, x231, x232, x233, x234, x235, x236, x237, x238, x239, x240, x241, x242, x243, x244, x245, x246, x247, x248, x249, x250, x251, x252, x253, x254, x255, x256, x257, x258, x259, x260, x261, x262, x263, x264, x265, x266, x267, x268, x269, x270, x271, x272, x273, x274, x275, x276, x277, x278, x279, x280, x281, x282, x283, x284, x285, x286, x287, x288, x289, x290, x291, x292, x293, x294, x295, x296, x297, x298, x299, x300, x301, x302, x303, x304, x305, x306, x307, x308, x309, x310, x311, x312, x313, x314, x315, x316, x317, x318, x319, x320, x321, x322, x323, x324, x325].toArray, []⟩ w10) :
    (Code.region 25 ops true).wp Try.prog Q ⟨[x0, .pointer (some ⟨bx, 0, none⟩), x2, x3, x4, x5, x6, x7, x8, x9, x10, x11, x12, x13, x14, x15, x16, x17, x18, x19, x20, x21, x22, x23, x24, x25, x26, x27, x28, x29, x30, x31, x32, x33, x34, x35, x36, x37, x38, x39, x40, x41, x42, x43, x44, x45, x46, x47, x48, x49, x50, x51, x52, x53, x54, x55, x56, x57, x58, x59, x60, x61, x62, x63, x64, x65, x66, x67, x68, x69, x70, x71, x72, x73, x74, x75, x76, x77, x78, x79, x80, x81, x82, x83, x84, x85, x86, x87, x88, x89, x90, x91, x92, x93, x94, x95, x96, x97, x98, x99, x100, x101, x102, x103, x104, x105, x106, x107, x108, x109, x110, x111, x112, x113, x114, x115, x116, x117, x118, x119, x120, x121, x122, x123, x124, x125, x126, x127, x128, x129, x130, x131, x132, x133, x134, x135, x136, x137, x138, x139, x140, x141, x142, x143, x144, x145, x146, x147, x148, x149, x150, x151, x152, x153, x154, x155, x156, x157, x158, x159, x160, x161, x162, x163, x164, x165, x166, x167, x168, x169, x170, x171, x172, x173, x174, x175, x176, x177, x178, x179, x180, x181, x182, x183, x184, x185, x186, x187, x188, x189, x190, x191, x192, x193, x194, x195, x196, x197, x198, x199, x200, x201, x202, x203, x204, x205, x206, x207, x208, x209, x210, x211, x212, x213, x214, x215, x216, x217, x218, x219, x220, x221, x222, x223, x224, x225, x226, x227, x228, x229, x230, x231, x232, x233, x234, x235, x236, x237, x238, x239, x240, x241, x242, x243, x244, x245, x246, x247, x248, x249, x250, x251, x252, x253, x254, x255, x256, x257, x258, x259, x260, x261, x262, x263, x264, x265, x266, x267, x268, x269, x270, x271, x272, x273, x274, x275, x276, x277, x278, x279, x280, x281, x282, x283, x284, x285, x286, x287, x288, x289, x290, x291, x292, x293, x294, x295, x296, x297, x298, x299, x300, x301, x302, x303, x304, x305, x306, x307, x308, x309, x310, x311, x312, x313, x314, x315, x316, x317, x318, x319, x320, x321, x322, x323, x324, x325].toArray, []⟩ w0 := by
  simp only [Try.f3, Option.bind_some, regOf] at hops
  replace hops := Option.some.inj hops
  subst hops
  replace hQ := Lib.hid hQ
  refine wp_region_gj (J := GJ _ (SS 7 (fun κ => match κ with | 0 => (.eq (.agg #[.slice px0 X.hosts.length kx0, .slice px1 X.waves.length kx1, .bool X.rate.neg, .slice px2 X.rate.num.length kx2, .slice px3 X.rate.den.length kx3, .bool X.bound.neg, .slice px4 X.bound.num.length kx4, .slice px5 X.bound.den.length kx5])) | 1 => (kF (fr false 1 1001)) | 2 => (kU (F0) (2)) | 3 => (kU (F0) (2)) | 4 => (kF (F0)) | 5 => (.eq (.int .i64 2)) | 6 => .any | 8 => (.eq (.int .i64 2)) | _ => .any)) (CA w0 6 7 26 (fun w b => Box w b #[.bool false, .slice none 0 0, .slice none 0 0] 26) (fun _ _ => True)) _) (by kernel_rfl) ?_ ?_ (GJ.start CA.start)
  · intro listed a w9 i hr hj
    obtain ⟨hi12, hun, _, _, _⟩ := ready_mem hr
    have h12 : i ∈ List.range 9 := List.mem_range.2 hi12
    simp only [List.range, List.range.loop, List.mem_cons, List.not_mem_nil, or_false] at h12
    obtain ⟨f, ha, hcm, hf, hdo, hdi⟩ := hj.open2 [218, 219, 220, 217, 221, 222, 26, 27] (by kernel_rfl) (by kernel_rfl)
    simp only [List.foldl_cons, List.foldl_nil, List.setIfInBounds_toArray, List.set_cons_zero, List.set_cons_succ] at ha
    subst ha
    replace hcm : CA w0 6 7 26 (fun w b => Box w b #[.bool false, .slice none 0 0, .slice none 0 0] 26) (fun _ _ => True) listed f w9 := hcm
    have hlsz : listed.size = 9 := hj.lsize
    rcases h12 with rfl | rfl | rfl | rfl | rfl | rfl | rfl | rfl | rfl
    · have nS : ¬ up listed 7 := fun h => not_up hun (hj.closed 7 0 h (by kernel_rfl))
      have HCM := Lib.hid hcm; clear hcm
      have hcs := ((BX.out.after HCM.out.below).cells8)
      obtain ⟨d0, d1, d2, d3, d4, d5, d6, d7⟩ := hcs
      have dl := (BX.out.after HCM.out.below).lt
      refine GJ.op hj hdo hr rfl _ hdi (fun K hK => ?_)
      simp only [Act.put, List.setIfInBounds_toArray] at hK ⊢; clear hj hf hdo hdi
      go_simp
      exact hK _ _ (fun k v _ _ h => h.keep (Below.refl _ _)) (fun t ht => SS.of (.eq (.agg #[.slice px0 X.hosts.length kx0, .slice px1 X.waves.length kx1, .bool X.rate.neg, .slice px2 X.rate.num.length kx2, .slice px3 X.rate.den.length kx3, .bool X.bound.neg, .slice px4 X.bound.num.length kx4, .slice px5 X.bound.den.length kx5])) rfl rfl) (HCM.out.keep (by decide) (by decide) (by rfl) (stayBox _ _) stayTrue (Below.refl _ _))
    · have nS : ¬ up listed 7 := fun h => not_up hun (hj.closed 7 1 h (by kernel_rfl))
      have HCM := Lib.hid hcm; clear hcm
      refine GJ.op hj hdo hr rfl _ hdi (fun K hK => ?_)
      simp only [Act.put, List.setIfInBounds_toArray] at hK ⊢; clear hj hf hdo hdi
      go_simp
      refine (of32_c _ 1 1001 (by omega) (by omega) (by omega) (by omega)).mono ?_
      rw [of_fine]
      rintro e w11 ⟨v11, rfl, hv, hb⟩
      exact hK _ _ (fun k v _ _ h => h.keep (hb)) (fun t ht => SS.of (kF (fr false 1 1001)) rfl (fun _ => hv)) (HCM.out.keep (by decide) (by decide) (by rfl) (stayBox _ _) stayTrue (hb))
    · have nS : ¬ up listed 7 := fun h => not_up hun (hj.closed 7 2 h (by kernel_rfl))
      have e1 : f 218 = .agg #[.slice px0 X.hosts.length kx0, .slice px1 X.waves.length kx1, .bool X.rate.neg, .slice px2 X.rate.num.length kx2, .slice px3 X.rate.den.length kx3, .bool X.bound.neg, .slice px4 X.bound.num.length kx4, .slice px5 X.bound.den.length kx5] := hf 0 _ _ rfl rfl (up_dep hr (by kernel_rfl))
      have s2 : IsF w9 (f 219) (fr false 1 1001) := (hf 1 _ _ rfl rfl (up_dep hr (by kernel_rfl))) nS
      have HCM := Lib.hid hcm; clear hcm
      refine GJ.op hj hdo hr rfl _ hdi (fun K hK => ?_)
      simp only [Act.put, List.setIfInBounds_toArray] at hK ⊢; clear hj hf hdo hdi
      rw [e1] at hK ⊢; clear e1
      go_simp
      refine (Chance_c _ _ _ X _ (HRX.out.after HCM.out.below) s2).mono ?_
      rw [HCH.out]
      rintro e w11 ⟨v11, rfl, hv, hb⟩
      have hv : IsF w11 v11 (F0) := hv
      exact hK _ _ (fun k v _ _ h => h.keep (hb)) (fun t ht => SS.of (kU (F0) (2)) rfl ⟨⟨_, rfl⟩, fun _ => ⟨_, rfl, hv⟩⟩) (HCM.out.keep (by decide) (by decide) (by rfl) (stayBox _ _) stayTrue (hb))
    · have nS : ¬ up listed 7 := fun h => not_up hun (hj.closed 7 3 h (by kernel_rfl))
      have s1 : ∃ u, f 220 = .tuple #[u, .int .i64 2] ∧ IsF w9 u (F0) := (hf 2 _ _ rfl rfl (up_dep hr (by kernel_rfl))).2 nS
      have HCM := Lib.hid hcm; clear hcm
      obtain ⟨uu, zz, hu⟩ := s1
      refine GJ.op hj hdo hr rfl _ hdi (fun K hK => ?_)
      simp only [Act.put, List.setIfInBounds_toArray] at hK ⊢; clear hj hf hdo hdi
      rw [zz] at hK ⊢
      go_simp
      exact hK _ _ (fun k v _ _ h => h.keep (Below.refl _ _)) (fun t ht => SS.of (kU (F0) (2)) rfl ⟨⟨_, rfl⟩, fun _ => ⟨_, rfl, hu⟩⟩) (HCM.out.keep (by decide) (by decide) (by rfl) (stayBox _ _) stayTrue (Below.refl _ _))
    · have nS : ¬ up listed 7 := fun h => not_up hun (hj.closed 7 4 h (by kernel_rfl))
      have s1 : ∃ u, f 217 = .tuple #[u, .int .i64 2] ∧ IsF w9 u (F0) := (hf 3 _ _ rfl rfl (up_dep hr (by kernel_rfl))).2 nS
      have HCM := Lib.hid hcm; clear hcm
      obtain ⟨uu, zz, hu⟩ := s1
      refine GJ.op hj hdo hr rfl _ hdi (fun K hK => ?_)
      simp only [Act.put, List.setIfInBounds_toArray] at hK ⊢; clear hj hf hdo hdi
      rw [zz] at hK ⊢
      go_simp
      exact hK _ _ (fun k v _ _ h => h.keep (Below.refl _ _)) (fun t ht => SS.of (kF (F0)) rfl (fun _ => hu)) (HCM.out.keep (by decide) (by decide) (by rfl) (stayBox _ _) stayTrue (Below.refl _ _))
    · have s1 : ∃ u, f 217 = .tuple #[u, .int .i64 (2)] := (hf 3 _ _ rfl rfl (up_dep hr (by kernel_rfl))).1
      have HCM := Lib.hid hcm; clear hcm
      obtain ⟨uu, zz⟩ := s1
      refine GJ.op hj hdo hr rfl _ hdi (fun K hK => ?_)
      simp only [Act.put, List.setIfInBounds_toArray] at hK ⊢; clear hj hf hdo hdi
      rw [zz] at hK ⊢
      go_simp
      exact hK _ _ (fun k v _ _ h => h.keep (Below.refl _ _)) (fun t ht => SS.of (.eq (.int .i64 2)) rfl rfl) (HCM.out.keep (by decide) (by decide) (by rfl) (stayBox _ _) stayTrue (Below.refl _ _))
    · have nS : ¬ up listed 7 := fun h => not_up hun (hj.closed 7 6 h (by kernel_rfl))
      have HCM := Lib.hid hcm; clear hcm
      refine GJ.op hj hdo hr rfl _ hdi (fun K hK => ?_)
      simp only [Act.put, List.setIfInBounds_toArray] at hK ⊢; clear hj hf hdo hdi
      go_simp
      exact hK _ _ (fun k v _ _ h => h.keep (held_alloc (Below.refl _ _))) (fun t ht => SS.of .any rfl trivial) (HCM.out.alloc (by decide) nS (held_alloc (Below.refl _ _)) (by rfl) HCM.out.below.size (Box.new _ _ _))
    · have nS : ¬ up listed 7 := not_up hun
      have s1 : IsF w9 (f 221) (F0) := (hf 4 _ _ rfl rfl (up_dep hr (by kernel_rfl))) nS
      have HCM := Lib.hid hcm; clear hcm
      obtain ⟨bv, ev, hBv, hzv, _⟩ := HCM.out.var (up_dep hr (by kernel_rfl))
      have hbx := hzv nS
      obtain ⟨va, vb, zz, h1, h2⟩ := s1
      obtain ⟨pp, cc, rfl, _, _⟩ := h1.shape
      obtain ⟨qq, dd, rfl, _, _⟩ := h2.shape
      refine GJ.op hj hdo hr rfl _ hdi (fun K hK => ?_)
      simp only [Act.put] at hK ⊢; clear hj hf hdo hdi
      rw [zz] at hK ⊢
      rw [ev] at hK ⊢
      have kx0 := hbx.cell 0
      have kx1 := hbx.cell 1
      have kx2 := hbx.cell 2
      have fx0 := hbx.frozen 0
      have fx1 := hbx.frozen 1
      have fx2 := hbx.frozen 2
      have yl := hbx.lt
      have HBX := Lib.hid hbx
      clear hbx hzv
      go_simp
      exact hK undef _ (fun k v _ _ h => h.put (up_self (by rw [hlsz]; decide))) (fun t ht => by cases ht) (CA.put (by rw [hlsz]; decide) (((HCM.out.below.setCell hBv _).setCell hBv _).setCell hBv _) (by rfl) hBv trivial)
    · have e1 : f 222 = .int .i64 2 := hf 5 _ _ rfl rfl (up_dep hr (by kernel_rfl))
      have HCM := Lib.hid hcm; clear hcm
      refine GJ.op hj hdo hr rfl _ hdi (fun K hK => ?_)
      simp only [Act.put, List.setIfInBounds_toArray] at hK ⊢; clear hj hf hdo hdi
      rw [e1] at hK ⊢; clear e1
      go_simp
      exact hK _ _ (fun k v _ _ h => h.keep (Below.refl _ _)) (fun t ht => SS.of (.eq (.int .i64 2)) rfl rfl) (HCM.out.keep (by decide) (by decide) (by rfl) (stayBox _ _) stayTrue (Below.refl _ _))
  · intro listed a w10 hr hj
    have hu : ∀ k, k < 9 → up listed k := fun k hk => all_up (by kernel_rfl) hj.lsize hr k hk
    have hlsz : listed.size = 9 := hj.lsize
    obtain ⟨f, ha, hcm, hf, hdo, hdi⟩ := hj.open2 [218, 219, 220, 217, 221, 222, 26, 27] (by kernel_rfl) (by kernel_rfl)
    simp only [List.foldl_cons, List.foldl_nil, List.setIfInBounds_toArray, List.set_cons_zero, List.set_cons_succ] at ha
    subst ha
    replace hcm : CA w0 6 7 26 (fun w b => Box w b #[.bool false, .slice none 0 0, .slice none 0 0] 26) (fun _ _ => True) listed f w10 := hcm
    have E8 : f 27 = .int .i64 2 := hf 8 _ _ rfl rfl (hu 8 (by omega))
    obtain ⟨bv, EV, hBV, _, hNV⟩ := hcm.var (hu 6 (by omega))
    have HBR := hcm.below
    clear hf hj hr hu hcm hlsz hdo hdi hNV
    rw [E8]
    clear E8
    rw [EV]
    clear EV
    generalize f 217 = g217
    generalize f 218 = g218
    generalize f 219 = g219
    generalize f 220 = g220
    generalize f 221 = g221
    generalize f 222 = g222
    exact hQ.out _ _ _ _ _ _ _ _ hBV HBR
set_option maxRecDepth 100000 in
set_option maxHeartbeats 16000000 in
theorem known_r28 (ops : Array Oper) (hops : (Try.f3.body.bind (regOf 28)) = some ops) {w0 : World} {q : F} {A6 : Nat} {q1 q2 : Option Addr} {j1 j2 : Nat} {Q : Exit → Act → World → Prop} {x0 x1 x2 x3 x4 x5 x7 x8 x9 x10 x11 x12 x13 x14 x15 x16 x17 x18 x19 x20 x21 x22 x23 x24 x25 x26 x27 x28 x29 x30 x31 x32 x33 x34 x35 x36 x37 x38 x39 x40 x41 x42 x43 x44 x45 x46 x47 x48 x49 x50 x51 x52 x53 x54 x55 x56 x57 x58 x59 x60 x61 x62 x63 x64 x65 x66 x67 x68 x69 x70 x71 x72 x73 x74 x75 x76 x77 x78 x79 x80 x81 x82 x83 x84 x85 x86 x87 x88 x89 x90 x91 x92 x93 x94 x95 x96 x97 x98 x99 x100 x101 x102 x103 x104 x105 x106 x107 x108 x109 x110 x111 x112 x113 x114 x115 x116 x117 x118 x119 x120 x121 x122 x123 x124 x125 x126 x127 x128 x129 x130 x131 x132 x133 x134 x135 x136 x137 x138 x139 x140 x141 x142 x143 x144 x145 x146 x147 x148 x149 x150 x151 x152 x153 x154 x155 x156 x157 x158 x159 x160 x161 x162 x163 x164 x165 x166 x167 x168 x169 x170 x171 x172 x173 x174 x175 x176 x177 x178 x179 x180 x181 x182 x183 x184 x185 x186 x187 x188 x189 x190 x191 x192 x193 x194 x195 x196 x197 x198 x199 x200 x201 x202 x203 x204 x205 x206 x207 x208 x209 x210 x211 x212 x213 x214 x215 x216 x217 x218 x219 x220 x221 x222 x223 x224 x225 x226 x227 x228 x229 x230 x231 x232 x233 x234 x235 x236 x237 x238 x239 x240 x241 x242 x243 x244 x245 x246 x247 x248 x249 x250 x251 x252 x253 x254 x255 x256 x257 x258 x259 x260 x261 x262 x263 x264 x265 x266 x267 x268 x269 x270 x271 x272 x273 x274 x275 x276 x277 x278 x279 x280 x281 x282 x283 x284 x285 x286 x287 x288 x289 x290 x291 x292 x293 x294 x295 x296 x297 x298 x299 x300 x301 x302 x303 x304 x305 x306 x307 x308 x309 x310 x311 x312 x313 x314 x315 x316 x317 x318 x319 x320 x321 x322 x323 x324 x325 : Value}
    (BQ : Hid (Box w0 A6 #[.bool q.neg, .slice q1 q.num.length j1, .slice q2 q.den.length j2] 26)) (FQ : Hid (IsF w0 (.agg #[.bool q.neg, .slice q1 q.num.length j1, .slice q2 q.den.length j2]) q))
    (hQ : ∀ (w10 : World) (bv : Nat) (y241 y242 y243 y244 y245 : Value), w0.heap.size ≤ bv → VarRo w10 bv ⟨[3, 9], [1, 1], q, fr false 1 1⟩ → Below w0.heap.size w0 w10 → Q .normal ⟨[x0, x1, x2, x3, x4, x5, .pointer (some ⟨A6, 0, none⟩), x7, x8, x9, x10, x11, x12, x13, x14, x15, x16, x17, x18, x19, x20, x21, x22, x23, x24, x25, x26, x27, .pointer (some ⟨bv, 0, none⟩), x29, x30, x31, x32, x33, x34, x35, x36, x37, x38, x39, x40, x41, x42, x43, x44, x45, x46, x47, x48, x49, x50, x51, x52, x53, x54, x55, x56, x57, x58, x59, x60, x61, x62, x63, x64, x65, x66, x67, x68, x69, x70, x71, x72, x73, x74, x75, x76, x77, x78, x79, x80, x81, x82, x83, x84, x85, x86, x87, x88, x89, x90, x91, x92, x93, x94, x95, x96, x97, x98, x99, x100, x101, x102, x103, x104, x105, x106, x107, x108, x109, x110, x111, x112, x113, x114, x115, x116, x117, x118, x119, x120, x121, x122, x123, x124, x125, x126, x127, x128, x129, x130, x131, x132, x133, x134, x135, x136, x137, x138, x139, x140, x141, x142, x143, x144, x145, x146, x147, x148, x149, x150, x151, x152, x153, x154, x155, x156, x157, x158, x159, x160, x161, x162, x163, x164, x165, x166, x167, x168, x169, x170, x171, x172, x173, x174, x175, x176, x177, x178, x179, x180, x181, x182, x183, x184, x185, x186, x187, x188, x189, x190, x191, x192, x193, x194, x195, x196, x197, x198, x199, x200, x201, x202, x203, x204, x205, x206, x207, x208, x209, x210, x211, x212, x213, x214, x215, x216, x217, x218, x219, x220, x221, x222, x223, x224, x225, x226, x227, x228, x229, x230, x231, x232, x233, x234, x235, x236, x237, x238, x239, x240, y241, y242, y243, y244, y245, x246, x247, x248, x249, x250, x251, x252, x253, x254, x255, x256, x257, x258, x259, x260, x261, x262, x263, x264, x265, x266, x267, x268, x269, x270, x271, x272, x273, x274, x275, x276, x277, x278, x279, x280, x281, x282, x283, x284, x285, x286, x287, x288, x289, x290, x291, x292, x293, x294, x295, x296, x297, x298, x299, x300, x301, x302, x303, x304, x305, x306, x307, x308, x309, x310, x311, x312, x313, x314, x315, x316, x317, x318, x319, x320, x321, x322, x323, x324, x325].toArray, []⟩ w10) :
    (Code.region 28 ops true).wp Try.prog Q ⟨[x0, x1, x2, x3, x4, x5, .pointer (some ⟨A6, 0, none⟩), x7, x8, x9, x10, x11, x12, x13, x14, x15, x16, x17, x18, x19, x20, x21, x22, x23, x24, x25, x26, x27, x28, x29, x30, x31, x32, x33, x34, x35, x36, x37, x38, x39, x40, x41, x42, x43, x44, x45, x46, x47, x48, x49, x50, x51, x52, x53, x54, x55, x56, x57, x58, x59, x60, x61, x62, x63, x64, x65, x66, x67, x68, x69, x70, x71, x72, x73, x74, x75, x76, x77, x78, x79, x80, x81, x82, x83, x84, x85, x86, x87, x88, x89, x90, x91, x92, x93, x94, x95, x96, x97, x98, x99, x100, x101, x102, x103, x104, x105, x106, x107, x108, x109, x110, x111, x112, x113, x114, x115, x116, x117, x118, x119, x120, x121, x122, x123, x124, x125, x126, x127, x128, x129, x130, x131, x132, x133, x134, x135, x136, x137, x138, x139, x140, x141, x142, x143, x144, x145, x146, x147, x148, x149, x150, x151, x152, x153, x154, x155, x156, x157, x158, x159, x160, x161, x162, x163, x164, x165, x166, x167, x168, x169, x170, x171, x172, x173, x174, x175, x176, x177, x178, x179, x180, x181, x182, x183, x184, x185, x186, x187, x188, x189, x190, x191, x192, x193, x194, x195, x196, x197, x198, x199, x200, x201, x202, x203, x204, x205, x206, x207, x208, x209, x210, x211, x212, x213, x214, x215, x216, x217, x218, x219, x220, x221, x222, x223, x224, x225, x226, x227, x228, x229, x230, x231, x232, x233, x234, x235, x236, x237, x238, x239, x240, x241, x242, x243, x244, x245, x246, x247, x248, x249, x250, x251, x252, x253, x254, x255, x256, x257, x258, x259, x260, x261, x262, x263, x264, x265, x266, x267, x268, x269, x270, x271, x272, x273, x274, x275, x276, x277, x278, x279, x280, x281, x282, x283, x284, x285, x286, x287, x288, x289, x290, x291, x292, x293, x294, x295, x296, x297, x298, x299, x300, x301, x302, x303, x304, x305, x306, x307, x308, x309, x310, x311, x312, x313, x314, x315, x316, x317, x318, x319, x320, x321, x322, x323, x324, x325].toArray, []⟩ w0 := by
  simp only [Try.f3, Option.bind_some, regOf] at hops
  replace hops := Option.some.inj hops
  subst hops
  replace hQ := Lib.hid hQ
  refine wp_region_gj (J := GJ _ (SS 6 (fun κ => match κ with | 0 => (kI ([3, 9])) | 1 => (kI ([1, 1])) | 2 => (.eq (.agg #[.bool q.neg, .slice q1 q.num.length j1, .slice q2 q.den.length j2])) | 3 => (kF (fr false 1 1)) | 4 => (kR (⟨[3, 9], [1, 1], q, fr false 1 1⟩)) | 5 => .any | _ => .any)) (CA w0 5 6 28 (fun w b => Box w b #[.slice none 0 0, .slice none 0 0, .bool false, .slice none 0 0, .slice none 0 0, .bool false, .slice none 0 0, .slice none 0 0] 28) (fun w b => VarRo w b (⟨[3, 9], [1, 1], q, fr false 1 1⟩))) _) (by kernel_rfl) ?_ ?_ (GJ.start CA.start)
  · intro listed a w9 i hr hj
    obtain ⟨hi12, hun, _, _, _⟩ := ready_mem hr
    have h12 : i ∈ List.range 7 := List.mem_range.2 hi12
    simp only [List.range, List.range.loop, List.mem_cons, List.not_mem_nil, or_false] at h12
    obtain ⟨f, ha, hcm, hf, hdo, hdi⟩ := hj.open2 [241, 242, 243, 244, 245, 28] (by kernel_rfl) (by kernel_rfl)
    simp only [List.foldl_cons, List.foldl_nil, List.setIfInBounds_toArray, List.set_cons_zero, List.set_cons_succ] at ha
    subst ha
    replace hcm : CA w0 5 6 28 (fun w b => Box w b #[.slice none 0 0, .slice none 0 0, .bool false, .slice none 0 0, .slice none 0 0, .bool false, .slice none 0 0, .slice none 0 0] 28) (fun w b => VarRo w b (⟨[3, 9], [1, 1], q, fr false 1 1⟩)) listed f w9 := hcm
    have hlsz : listed.size = 7 := hj.lsize
    rcases h12 with rfl | rfl | rfl | rfl | rfl | rfl | rfl
    · have nS : ¬ up listed 6 := fun h => not_up hun (hj.closed 6 0 h (by kernel_rfl))
      have HCM := Lib.hid hcm; clear hcm
      refine GJ.op hj hdo hr rfl _ hdi (fun K hK => ?_)
      simp only [Act.put, List.setIfInBounds_toArray] at hK ⊢; clear hj hf hdo hdi
      go_simp
      exact hK _ _ (fun k v _ _ h => h.keep (held_alloc (Below.refl _ _))) (fun t ht => SS.of (kI ([3, 9])) rfl (fun _ => SlI.lit (l := [3, 9]) (Box.new _ _ _) rfl (in_lit _ (by decide)) (by decide))) (HCM.out.keep (by decide) (by decide) (by rfl) (stayBox _ _) (stayRo _) (held_alloc (Below.refl _ _)))
    · have nS : ¬ up listed 6 := fun h => not_up hun (hj.closed 6 1 h (by kernel_rfl))
      have HCM := Lib.hid hcm; clear hcm
      refine GJ.op hj hdo hr rfl _ hdi (fun K hK => ?_)
      simp only [Act.put, List.setIfInBounds_toArray] at hK ⊢; clear hj hf hdo hdi
      go_simp
      exact hK _ _ (fun k v _ _ h => h.keep (held_alloc (Below.refl _ _))) (fun t ht => SS.of (kI ([1, 1])) rfl (fun _ => SlI.lit (l := [1, 1]) (Box.new _ _ _) rfl (in_lit _ (by decide)) (by decide))) (HCM.out.keep (by decide) (by decide) (by rfl) (stayBox _ _) (stayRo _) (held_alloc (Below.refl _ _)))
    · have nS : ¬ up listed 6 := fun h => not_up hun (hj.closed 6 2 h (by kernel_rfl))
      have HCM := Lib.hid hcm; clear hcm
      have hcs := ((BQ.out.after HCM.out.below).cells3)
      obtain ⟨d0, d1, d2⟩ := hcs
      have dl := (BQ.out.after HCM.out.below).lt
      refine GJ.op hj hdo hr rfl _ hdi (fun K hK => ?_)
      simp only [Act.put, List.setIfInBounds_toArray] at hK ⊢; clear hj hf hdo hdi
      go_simp
      exact hK _ _ (fun k v _ _ h => h.keep (Below.refl _ _)) (fun t ht => SS.of (.eq (.agg #[.bool q.neg, .slice q1 q.num.length j1, .slice q2 q.den.length j2])) rfl rfl) (HCM.out.keep (by decide) (by decide) (by rfl) (stayBox _ _) (stayRo _) (Below.refl _ _))
    · have nS : ¬ up listed 6 := fun h => not_up hun (hj.closed 6 3 h (by kernel_rfl))
      have HCM := Lib.hid hcm; clear hcm
      refine GJ.op hj hdo hr rfl _ hdi (fun K hK => ?_)
      simp only [Act.put, List.setIfInBounds_toArray] at hK ⊢; clear hj hf hdo hdi
      go_simp
      refine (of32_c _ 1 1 (by omega) (by omega) (by omega) (by omega)).mono ?_
      rw [of_11]
      rintro e w11 ⟨v11, rfl, hv, hb⟩
      exact hK _ _ (fun k v _ _ h => h.keep (hb)) (fun t ht => SS.of (kF (fr false 1 1)) rfl (fun _ => hv)) (HCM.out.keep (by decide) (by decide) (by rfl) (stayBox _ _) (stayRo _) (hb))
    · have nS : ¬ up listed 6 := fun h => not_up hun (hj.closed 6 4 h (by kernel_rfl))
      have s1 : SlI w9 (f 241) ([3, 9]) := (hf 0 _ _ rfl rfl (up_dep hr (by kernel_rfl))) nS
      have s2 : SlI w9 (f 242) ([1, 1]) := (hf 1 _ _ rfl rfl (up_dep hr (by kernel_rfl))) nS
      have e3 : f 243 = .agg #[.bool q.neg, .slice q1 q.num.length j1, .slice q2 q.den.length j2] := hf 2 _ _ rfl rfl (up_dep hr (by kernel_rfl))
      have s4 : IsF w9 (f 244) (fr false 1 1) := (hf 3 _ _ rfl rfl (up_dep hr (by kernel_rfl))) nS
      have HCM := Lib.hid hcm; clear hcm
      obtain ⟨ph, ch, z1, _, _, _⟩ := s1.shape
      obtain ⟨pw, cw, z2, _, _, _⟩ := s2.shape
      obtain ⟨vab, vbb, z4, h1b, h2b⟩ := s4
      obtain ⟨ppb, ccb, y1b, _, _⟩ := h1b.shape
      obtain ⟨qqb, ddb, y2b, _, _⟩ := h2b.shape
      subst y1b y2b
      have hq := (FQ.out.after HCM.out.below).parts3
      refine GJ.op hj hdo hr rfl _ hdi (fun K hK => ?_)
      simp only [Act.put, List.setIfInBounds_toArray] at hK ⊢; clear hj hf hdo hdi
      rw [e3] at hK ⊢; clear e3
      rw [z1] at hK s1 ⊢
      rw [z2] at hK s2 ⊢
      rw [z4] at hK ⊢
      go_simp
      exact hK _ _ (fun k v _ _ h => h.keep (Below.refl _ _)) (fun t ht => SS.of (kR (⟨[3, 9], [1, 1], q, fr false 1 1⟩)) rfl (fun _ => IsR.mk s1 s2 hq.2.1 hq.2.2 h1b h2b)) (HCM.out.keep (by decide) (by decide) (by rfl) (stayBox _ _) (stayRo _) (Below.refl _ _))
    · have nS : ¬ up listed 6 := fun h => not_up hun (hj.closed 6 5 h (by kernel_rfl))
      have HCM := Lib.hid hcm; clear hcm
      refine GJ.op hj hdo hr rfl _ hdi (fun K hK => ?_)
      simp only [Act.put, List.setIfInBounds_toArray] at hK ⊢; clear hj hf hdo hdi
      go_simp
      exact hK _ _ (fun k v _ _ h => h.keep (held_alloc (Below.refl _ _))) (fun t ht => SS.of .any rfl trivial) (HCM.out.alloc (by decide) nS (held_alloc (Below.refl _ _)) (by rfl) HCM.out.below.size (Box.new _ _ _))
    · have nS : ¬ up listed 6 := not_up hun
      have s1 : IsR w9 (f 245) (⟨[3, 9], [1, 1], q, fr false 1 1⟩) := (hf 4 _ _ rfl rfl (up_dep hr (by kernel_rfl))) nS
      have HCM := Lib.hid hcm; clear hcm
      obtain ⟨bv, ev, hBv, hzv, _⟩ := HCM.out.var (up_dep hr (by kernel_rfl))
      have hbx := hzv nS
      obtain ⟨a0, a1, a2, a3, a4, a5, e0, e1, e2, e3, e4, e5, zz, _⟩ := s1.open
      refine GJ.op hj hdo hr rfl _ hdi (fun K hK => ?_)
      simp only [Act.put] at hK ⊢; clear hj hf hdo hdi
      rw [zz] at hK s1 ⊢
      have HS1 := Lib.hid s1
      clear s1
      rw [ev] at hK ⊢
      have kx0 := hbx.cell 0
      have kx1 := hbx.cell 1
      have kx2 := hbx.cell 2
      have kx3 := hbx.cell 3
      have kx4 := hbx.cell 4
      have kx5 := hbx.cell 5
      have kx6 := hbx.cell 6
      have kx7 := hbx.cell 7
      have fx0 := hbx.frozen 0
      have fx1 := hbx.frozen 1
      have fx2 := hbx.frozen 2
      have fx3 := hbx.frozen 3
      have fx4 := hbx.frozen 4
      have fx5 := hbx.frozen 5
      have fx6 := hbx.frozen 6
      have fx7 := hbx.frozen 7
      have yl := hbx.lt
      have HBX := Lib.hid hbx
      clear hbx hzv
      go_simp
      exact hK undef _ (fun k v _ _ h => h.put (up_self (by rw [hlsz]; decide))) (fun t ht => by cases ht) (CA.put (by rw [hlsz]; decide) ((((((((HCM.out.below.setCell hBv _).setCell hBv _).setCell hBv _).setCell hBv _).setCell hBv _).setCell hBv _).setCell hBv _).setCell hBv _) (by rfl) hBv ⟨a0, a1, a2, a3, a4, a5, e0, e1, e2, e3, e4, e5, (ro_store HBX.out HS1.out).1, (ro_store HBX.out HS1.out).2⟩)
  · intro listed a w10 hr hj
    have hu : ∀ k, k < 7 → up listed k := fun k hk => all_up (by kernel_rfl) hj.lsize hr k hk
    have hlsz : listed.size = 7 := hj.lsize
    obtain ⟨f, ha, hcm, hf, hdo, hdi⟩ := hj.open2 [241, 242, 243, 244, 245, 28] (by kernel_rfl) (by kernel_rfl)
    simp only [List.foldl_cons, List.foldl_nil, List.setIfInBounds_toArray, List.set_cons_zero, List.set_cons_succ] at ha
    subst ha
    replace hcm : CA w0 5 6 28 (fun w b => Box w b #[.slice none 0 0, .slice none 0 0, .bool false, .slice none 0 0, .slice none 0 0, .bool false, .slice none 0 0, .slice none 0 0] 28) (fun w b => VarRo w b (⟨[3, 9], [1, 1], q, fr false 1 1⟩)) listed f w10 := hcm
    obtain ⟨bv, EV, hBV, _, hNV⟩ := hcm.var (hu 5 (by omega))
    have VN := hNV (hu 6 (by omega))
    have HBR := hcm.below
    clear hf hj hr hu hcm hlsz hdo hdi hNV
    rw [EV]
    clear EV
    generalize f 241 = g241
    generalize f 242 = g242
    generalize f 243 = g243
    generalize f 244 = g244
    generalize f 245 = g245
    exact hQ.out _ _ _ _ _ _ _ hBV VN HBR
end Go.Proofs.Ytebmegodeglobaa

/- The examples of CanaryKnown: drawn regions of the walk (14, 15, 17). -/
import Derived.Test.YtebmegodeglobaaQGr0
set_option linter.unusedVariables false
namespace Go.Proofs.Ytebmegodeglobaa
open Go.RowKit

set_option maxRecDepth 100000 in
set_option maxHeartbeats 16000000 in
theorem known_r14 (ops : Array Oper) (hops : (Try.f3.body.bind (regOf 14)) = some ops) {w0 : World} {X : Ro} {bx : Nat} {px0 px1 px2 px3 px4 px5 : Option Addr} {kx0 kx1 kx2 kx3 kx4 kx5 : Nat} {Q : Exit → Act → World → Prop} {x0 x1 x2 x3 x4 x5 x6 x7 x8 x10 x11 x12 x13 x14 x15 x16 x17 x18 x19 x20 x21 x22 x23 x24 x25 x26 x27 x28 x29 x30 x31 x32 x33 x34 x35 x36 x37 x38 x39 x40 x41 x42 x43 x44 x45 x46 x47 x48 x49 x50 x51 x52 x53 x54 x55 x56 x57 x58 x59 x60 x61 x62 x63 x64 x65 x66 x67 x68 x69 x70 x71 x72 x73 x74 x75 x76 x77 x78 x79 x80 x81 x82 x83 x84 x85 x86 x87 x88 x89 x90 x91 x92 x93 x94 x95 x96 x97 x98 x99 x100 x101 x102 x103 x104 x105 x106 x107 x108 x109 x110 x111 x112 x113 x114 x115 x116 x117 x118 x119 x120 x121 x122 x123 x124 x125 x126 x127 x128 x129 x130 x131 x132 x133 x134 x135 x136 x137 x138 x139 x140 x141 x142 x143 x144 x145 x146 x147 x148 x149 x150 x151 x152 x153 x154 x155 x156 x157 x158 x159 x160 x161 x162 x163 x164 x165 x166 x167 x168 x169 x170 x171 x172 x173 x174 x175 x176 x177 x178 x179 x180 x181 x182 x183 x184 x185 x186 x187 x188 x189 x190 x191 x192 x193 x194 x195 x196 x197 x198 x199 x200 x201 x202 x203 x204 x205 x206 x207 x208 x209 x210 x211 x212 x213 x214 x215 x216 x217 x218 x219 x220 x221 x222 x223 x224 x225 x226 x227 x228 x229 x230 x231 x232 x233 x234 x235 x236 x237 x238 x239 x240 x241 x242 x243 x244 x245 x246 x247 x248 x249 x250 x251 x252 x253 x254 x255 x256 x257 x258 x259 x260 x261 x262 x263 x264 x265 x266 x267 x268 x269 x270 x271 x272 x273 x274 x275 x276 x277 x278 x279 x280 x281 x282 x283 x284 x285 x286 x287 x288 x289 x290 x291 x292 x293 x294 x295 x296 x297 x298 x299 x300 x301 x302 x303 x304 x305 x306 x307 x308 x309 x310 x311 x312 x313 x314 x315 x316 x317 x318 x319 x320 x321 x322 x323 x324 x325 : Value}
    (BX : Hid (Box w0 bx #[.slice px0 X.hosts.length kx0, .slice px1 X.waves.length kx1, .bool X.rate.neg, .slice px2 X.rate.num.length kx2, .slice px3 X.rate.den.length kx3, .bool X.bound.neg, .slice px4 X.bound.num.length kx4, .slice px5 X.bound.den.length kx5] 28)) (HRX : Hid (IsR w0 (.agg #[.slice px0 X.hosts.length kx0, .slice px1 X.waves.length kx1, .bool X.rate.neg, .slice px2 X.rate.num.length kx2, .slice px3 X.rate.den.length kx3, .bool X.bound.neg, .slice px4 X.bound.num.length kx4, .slice px5 X.bound.den.length kx5]) X)) (HXB : Hid (¬ ValidR X))
    (hQ : ∀ (w10 : World) (bv : Nat) (y151 y152 y153 y154 y155 y156 : Value), w0.heap.size ≤ bv → Below w0.heap.size w0 w10 → Q .normal ⟨[x0, x1, x2, x3, x4, x5, x6, x7, x8, .pointer (some ⟨bx, 0, none⟩), .pointer (some ⟨bv, 0, none⟩), .int .i64 1, x12, x13, x14, x15, x16, x17, x18, x19, x20, x21, x22, x23, x24, x25, x26, x27, x28, x29, x30, x31, x32, x33, x34, x35, x36, x37, x38, x39, x40, x41, x42, x43, x44, x45, x46, x47, x48, x49, x50, x51, x52, x53, x54, x55, x56, x57, x58, x59, x60, x61, x62, x63, x64, x65, x66, x67, x68, x69, x70, x71, x72, x73, x74, x75, x76, x77, x78, x79, x80, x81, x82, x83, x84, x85, x86, x87, x88, x89, x90, x91, x92, x93, x94, x95, x96, x97, x98, x99, x100, x101, x102, x103, x104, x105, x106, x107, x108, x109, x110, x111, x112, x113, x114, x115, x116, x117, x118, x119, x120, x121, x122, x123, x124, x125, x126, x127, x128, x129, x130, x131, x132, x133, x134, x135, x136, x137, x138, x139, x140, x141, x142, x143, x144, x145, x146, x147, x148, x149, x150, y151, y152, y153, y154, y155, y156, x157, x158, x159, x160, x161, x162, x163, x164, x165, x166, x167, x168, x169, x170, x171, x172, x173, x174, x175, x176, x177, x178, x179, x180, x181, x182, x183, x184, x185, x186, x187, x188, x189, x190, x191, x192, x193, x194, x195, x196, x197, x198, x199, x200, x201, x202, x203, x204, x205, x206, x207, x208, x209, x210, x211, x212, x213, x214, x215, x216, x217, x218, x219, x220, x221, x222, x223, x224, x225, x226, x227, x228, x229, x230, x231, x232, x233, x234, x235, x236, x237, x238, x239, x240, x241, x242, x243, x244, x245, x246, x247, x248, x249, x250, x251, x252, x253, x254, x255, x256, x257, x258, x259, x260, x261, x262, x263, x264, x265, x266, x267, x268, x269, x270, x271, x272, x273, x274, x275, x276, x277, x278, x279, x280, x281, x282, x283, x284, x285, x286, x287, x288, x289, x290, x291, x292, x293, x294, x295, x296, x297, x298, x299, x300, x301, x302, x303, x304, x305, x306, x307, x308, x309, x310, x311, x312, x313, x314, x315, x316, x317, x318, x319, x320, x321, x322, x323, x324, x325].toArray, []⟩ w10) :
    (Code.region 14 ops true).wp Try.prog Q ⟨[x0, x1, x2, x3, x4, x5, x6, x7, x8, .pointer (some ⟨bx, 0, none⟩), x10, x11, x12, x13, x14, x15, x16, x17, x18, x19, x20, x21, x22, x23, x24, x25, x26, x27, x28, x29, x30, x31, x32, x33, x34, x35, x36, x37, x38, x39, x40, x41, x42, x43, x44, x45, x46, x47, x48, x49, x50, x51, x52, x53, x54, x55, x56, x57, x58, x59, x60, x61, x62, x63, x64, x65, x66, x67, x68, x69, x70, x71, x72, x73, x74, x75, x76, x77, x78, x79, x80, x81, x82, x83, x84, x85, x86, x87, x88, x89, x90, x91, x92, x93, x94, x95, x96, x97, x98, x99, x100, x101, x102, x103, x104, x105, x106, x107, x108, x109, x110, x111, x112, x113, x114, x115, x116, x117, x118, x119, x120, x121, x122, x123, x124, x125, x126, x127, x128, x129, x130, x131, x132, x133, x134, x135, x136, x137, x138, x139, x140, x141, x142, x143, x144, x145, x146, x147, x148, x149, x150, x151, x152, x153, x154, x155, x156, x157, x158, x159, x160, x161, x162, x163, x164, x165, x166, x167, x168, x169, x170, x171, x172, x173, x174, x175, x176, x177, x178, x179, x180, x181, x182, x183, x184, x185, x186, x187, x188, x189, x190, x191, x192, x193, x194, x195, x196, x197, x198, x199, x200, x201, x202, x203, x204, x205, x206, x207, x208, x209, x210, x211, x212, x213, x214, x215, x216, x217, x218, x219, x220, x221, x222, x223, x224, x225, x226, x227, x228, x229, x230, x231, x232, x233, x234, x235, x236, x237, x238, x239, x240, x241, x242, x243, x244, x245, x246, x247, x248, x249, x250, x251, x252, x253, x254, x255, x256, x257, x258, x259, x260, x261, x262, x263, x264, x265, x266, x267, x268, x269, x270, x271, x272, x273, x274, x275, x276, x277, x278, x279, x280, x281, x282, x283, x284, x285, x286, x287, x288, x289, x290, x291, x292, x293, x294, x295, x296, x297, x298, x299, x300, x301, x302, x303, x304, x305, x306, x307, x308, x309, x310, x311, x312, x313, x314, x315, x316, x317, x318, x319, x320, x321, x322, x323, x324, x325].toArray, []⟩ w0 := by
  simp only [Try.f3, Option.bind_some, regOf] at hops
  replace hops := Option.some.inj hops
  subst hops
  replace hQ := Lib.hid hQ
  have hmk40 : ∀ W : World, (Instr.makeSlice 32 (.int .i64 40) (.int .i64 40)).run Try.prog W = .ok (.slice (some ⟨W.heap.size, 0, none⟩) 40 40) (W.alloc (.cells #[.bool false, .bool false, .bool false, .bool false, .bool false, .bool false, .bool false, .bool false, .bool false, .bool false, .bool false, .bool false, .bool false, .bool false, .bool false, .bool false, .bool false, .bool false, .bool false, .bool false, .bool false, .bool false, .bool false, .bool false, .bool false, .bool false, .bool false, .bool false, .bool false, .bool false, .bool false, .bool false, .bool false, .bool false, .bool false, .bool false, .bool false, .bool false, .bool false, .bool false] 4)) := by
    intro W
    have h := run_make_row' (P := Try.prog) 32 4 (.bool false) 1 Try.underlying32 (by kernel_rfl) rfl .i64 .i64 40 (by omega) (by omega) W
    rw [show madeCells #[Value.bool false] 40 = #[.bool false, .bool false, .bool false, .bool false, .bool false, .bool false, .bool false, .bool false, .bool false, .bool false, .bool false, .bool false, .bool false, .bool false, .bool false, .bool false, .bool false, .bool false, .bool false, .bool false, .bool false, .bool false, .bool false, .bool false, .bool false, .bool false, .bool false, .bool false, .bool false, .bool false, .bool false, .bool false, .bool false, .bool false, .bool false, .bool false, .bool false, .bool false, .bool false, .bool false] from by kernel_rfl] at h
    exact h
  refine wp_region_gj (J := GJ _ (SS 7 (fun κ => match κ with | 0 => (.eq (.agg #[.slice px0 X.hosts.length kx0, .slice px1 X.waves.length kx1, .bool X.rate.neg, .slice px2 X.rate.num.length kx2, .slice px3 X.rate.den.length kx3, .bool X.bound.neg, .slice px4 X.bound.num.length kx4, .slice px5 X.bound.den.length kx5])) | 1 => (kB (List.replicate 40 false)) | 2 => (kD (1)) | 3 => (kD (1)) | 4 => (kP (fun v => ∃ p n c, v = .agg #[.int .u8 0, .slice p n c])) | 5 => (.eq (.int .i64 1)) | 6 => .any | 8 => (.eq (.int .i64 1)) | _ => .any)) (CA w0 6 7 10 (fun w b => Box w b #[.int .u8 0, .slice none 0 0] 36) (fun _ _ => True)) _) (by kernel_rfl) ?_ ?_ (GJ.start CA.start)
  · intro listed a w9 i hr hj
    obtain ⟨hi12, hun, _, _, _⟩ := ready_mem hr
    have h12 : i ∈ List.range 9 := List.mem_range.2 hi12
    simp only [List.range, List.range.loop, List.mem_cons, List.not_mem_nil, or_false] at h12
    obtain ⟨f, ha, hcm, hf, hdo, hdi⟩ := hj.open2 [152, 153, 154, 151, 155, 156, 10, 11] (by kernel_rfl) (by kernel_rfl)
    simp only [List.foldl_cons, List.foldl_nil, List.setIfInBounds_toArray, List.set_cons_zero, List.set_cons_succ] at ha
    subst ha
    replace hcm : CA w0 6 7 10 (fun w b => Box w b #[.int .u8 0, .slice none 0 0] 36) (fun _ _ => True) listed f w9 := hcm
    have hlsz : listed.size = 9 := hj.lsize
    rcases h12 with rfl | rfl | rfl | rfl | rfl | rfl | rfl | rfl | rfl
    · have nS : ¬ up listed 7 := fun h => not_up hun (hj.closed 7 0 h (by kernel_rfl))
      have HCM := Lib.hid hcm; clear hcm
      have hcs := ((BX.out.after HCM.out.below).cells8)
      obtain ⟨d0, d1, d2, d3, d4, d5, d6, d7⟩ := hcs
      have dl := (BX.out.after HCM.out.below).lt
      refine GJ.op hj hdo hr rfl _ hdi (fun K hK => ?_)
      simp only [Act.put, List.setIfInBounds_toArray] at hK ⊢; clear hj hf hdo hdi
      go_simp
      exact hK _ _ (fun k v _ _ h => h.keep (Below.refl _ _)) (fun t ht => SS.of (.eq (.agg #[.slice px0 X.hosts.length kx0, .slice px1 X.waves.length kx1, .bool X.rate.neg, .slice px2 X.rate.num.length kx2, .slice px3 X.rate.den.length kx3, .bool X.bound.neg, .slice px4 X.bound.num.length kx4, .slice px5 X.bound.den.length kx5])) rfl rfl) (HCM.out.keep (by decide) (by decide) (by rfl) (stayBox _ _) stayTrue (Below.refl _ _))
    · have nS : ¬ up listed 7 := fun h => not_up hun (hj.closed 7 1 h (by kernel_rfl))
      have HCM := Lib.hid hcm; clear hcm
      refine GJ.op hj hdo hr rfl _ hdi (fun K hK => ?_)
      simp only [Act.put, List.setIfInBounds_toArray] at hK ⊢; clear hj hf hdo hdi
      go_simp
      exact hK _ _ (fun k v _ _ h => h.keep (held_alloc (Below.refl _ _))) (fun t ht => SS.of (kB (List.replicate 40 false)) rfl (fun _ => SlB.lit (l := List.replicate 40 false) (Box.new _ _ _) rfl (by decide))) (HCM.out.keep (by decide) (by decide) (by rfl) (stayBox _ _) stayTrue (held_alloc (Below.refl _ _)))
    · have nS : ¬ up listed 7 := fun h => not_up hun (hj.closed 7 2 h (by kernel_rfl))
      have e1 : f 152 = .agg #[.slice px0 X.hosts.length kx0, .slice px1 X.waves.length kx1, .bool X.rate.neg, .slice px2 X.rate.num.length kx2, .slice px3 X.rate.den.length kx3, .bool X.bound.neg, .slice px4 X.bound.num.length kx4, .slice px5 X.bound.den.length kx5] := hf 0 _ _ rfl rfl (up_dep hr (by kernel_rfl))
      have s2 : SlB w9 (f 153) (List.replicate 40 false) := (hf 1 _ _ rfl rfl (up_dep hr (by kernel_rfl))) nS
      have HCM := Lib.hid hcm; clear hcm
      refine GJ.op hj hdo hr rfl _ hdi (fun K hK => ?_)
      simp only [Act.put, List.setIfInBounds_toArray] at hK ⊢; clear hj hf hdo hdi
      rw [e1] at hK ⊢; clear e1
      go_simp
      refine (Next_c _ _ _ X _ (HRX.out.after HCM.out.below) s2).mono ?_
      rw [next_bad HXB.out]
      rintro e w11 ⟨v11, rfl, hv, hb⟩
      obtain ⟨pp, cc, rfl⟩ := (show SlT w11 v11 [] from hv).shape
      exact hK _ _ (fun k v _ _ h => h.keep (hb)) (fun t ht => SS.of (kD (1)) rfl ⟨⟨_, rfl⟩, fun _ => ⟨_, _, _, rfl⟩⟩) (HCM.out.keep (by decide) (by decide) (by rfl) (stayBox _ _) stayTrue (hb))
    · have nS : ¬ up listed 7 := fun h => not_up hun (hj.closed 7 3 h (by kernel_rfl))
      have s1 : ∃ p n c, f 154 = .tuple #[.agg #[.int .u8 0, .slice p n c], .int .i64 (1)] := (hf 2 _ _ rfl rfl (up_dep hr (by kernel_rfl))).2 nS
      have HCM := Lib.hid hcm; clear hcm
      obtain ⟨pp, nn, cc, zz⟩ := s1
      refine GJ.op hj hdo hr rfl _ hdi (fun K hK => ?_)
      simp only [Act.put, List.setIfInBounds_toArray] at hK ⊢; clear hj hf hdo hdi
      rw [zz] at hK ⊢
      go_simp
      exact hK _ _ (fun k v _ _ h => h.keep (Below.refl _ _)) (fun t ht => SS.of (kD (1)) rfl ⟨⟨_, rfl⟩, fun _ => ⟨_, _, _, rfl⟩⟩) (HCM.out.keep (by decide) (by decide) (by rfl) (stayBox _ _) stayTrue (Below.refl _ _))
    · have nS : ¬ up listed 7 := fun h => not_up hun (hj.closed 7 4 h (by kernel_rfl))
      have s1 : ∃ p n c, f 151 = .tuple #[.agg #[.int .u8 0, .slice p n c], .int .i64 (1)] := (hf 3 _ _ rfl rfl (up_dep hr (by kernel_rfl))).2 nS
      have HCM := Lib.hid hcm; clear hcm
      obtain ⟨pp, nn, cc, zz⟩ := s1
      refine GJ.op hj hdo hr rfl _ hdi (fun K hK => ?_)
      simp only [Act.put, List.setIfInBounds_toArray] at hK ⊢; clear hj hf hdo hdi
      rw [zz] at hK ⊢
      go_simp
      exact hK _ _ (fun k v _ _ h => h.keep (Below.refl _ _)) (fun t ht => SS.of (kP (fun v => ∃ p n c, v = .agg #[.int .u8 0, .slice p n c])) rfl (fun _ => ⟨_, _, _, rfl⟩)) (HCM.out.keep (by decide) (by decide) (by rfl) (stayBox _ _) stayTrue (Below.refl _ _))
    · have s1 : ∃ u, f 151 = .tuple #[u, .int .i64 (1)] := (hf 3 _ _ rfl rfl (up_dep hr (by kernel_rfl))).1
      have HCM := Lib.hid hcm; clear hcm
      obtain ⟨uu, zz⟩ := s1
      refine GJ.op hj hdo hr rfl _ hdi (fun K hK => ?_)
      simp only [Act.put, List.setIfInBounds_toArray] at hK ⊢; clear hj hf hdo hdi
      rw [zz] at hK ⊢
      go_simp
      exact hK _ _ (fun k v _ _ h => h.keep (Below.refl _ _)) (fun t ht => SS.of (.eq (.int .i64 1)) rfl rfl) (HCM.out.keep (by decide) (by decide) (by rfl) (stayBox _ _) stayTrue (Below.refl _ _))
    · have nS : ¬ up listed 7 := fun h => not_up hun (hj.closed 7 6 h (by kernel_rfl))
      have HCM := Lib.hid hcm; clear hcm
      refine GJ.op hj hdo hr rfl _ hdi (fun K hK => ?_)
      simp only [Act.put, List.setIfInBounds_toArray] at hK ⊢; clear hj hf hdo hdi
      go_simp
      exact hK _ _ (fun k v _ _ h => h.keep (held_alloc (Below.refl _ _))) (fun t ht => SS.of .any rfl trivial) (HCM.out.alloc (by decide) nS (held_alloc (Below.refl _ _)) (by rfl) HCM.out.below.size (Box.new _ _ _))
    · have nS : ¬ up listed 7 := not_up hun
      have s1 : (fun v => ∃ p n c, v = .agg #[.int .u8 0, .slice p n c]) (f 155) := (hf 4 _ _ rfl rfl (up_dep hr (by kernel_rfl))) nS
      have HCM := Lib.hid hcm; clear hcm
      obtain ⟨bv, ev, hBv, hzv, _⟩ := HCM.out.var (up_dep hr (by kernel_rfl))
      have hbx := hzv nS
      obtain ⟨pp, nn, cc, zz⟩ := s1
      refine GJ.op hj hdo hr rfl _ hdi (fun K hK => ?_)
      simp only [Act.put] at hK ⊢; clear hj hf hdo hdi
      rw [zz] at hK ⊢
      rw [ev] at hK ⊢
      have kx0 := hbx.cell 0
      have kx1 := hbx.cell 1
      have fx0 := hbx.frozen 0
      have fx1 := hbx.frozen 1
      have yl := hbx.lt
      have HBX := Lib.hid hbx
      clear hbx hzv
      go_simp
      exact hK undef _ (fun k v _ _ h => h.put (up_self (by rw [hlsz]; decide))) (fun t ht => by cases ht) (CA.put (by rw [hlsz]; decide) ((HCM.out.below.setCell hBv _).setCell hBv _) (by rfl) hBv trivial)
    · have e1 : f 156 = .int .i64 1 := hf 5 _ _ rfl rfl (up_dep hr (by kernel_rfl))
      have HCM := Lib.hid hcm; clear hcm
      refine GJ.op hj hdo hr rfl _ hdi (fun K hK => ?_)
      simp only [Act.put, List.setIfInBounds_toArray] at hK ⊢; clear hj hf hdo hdi
      rw [e1] at hK ⊢; clear e1
      go_simp
      exact hK _ _ (fun k v _ _ h => h.keep (Below.refl _ _)) (fun t ht => SS.of (.eq (.int .i64 1)) rfl rfl) (HCM.out.keep (by decide) (by decide) (by rfl) (stayBox _ _) stayTrue (Below.refl _ _))
  · intro listed a w10 hr hj
    have hu : ∀ k, k < 9 → up listed k := fun k hk => all_up (by kernel_rfl) hj.lsize hr k hk
    have hlsz : listed.size = 9 := hj.lsize
    obtain ⟨f, ha, hcm, hf, hdo, hdi⟩ := hj.open2 [152, 153, 154, 151, 155, 156, 10, 11] (by kernel_rfl) (by kernel_rfl)
    simp only [List.foldl_cons, List.foldl_nil, List.setIfInBounds_toArray, List.set_cons_zero, List.set_cons_succ] at ha
    subst ha
    replace hcm : CA w0 6 7 10 (fun w b => Box w b #[.int .u8 0, .slice none 0 0] 36) (fun _ _ => True) listed f w10 := hcm
    have E8 : f 11 = .int .i64 1 := hf 8 _ _ rfl rfl (hu 8 (by omega))
    obtain ⟨bv, EV, hBV, _, hNV⟩ := hcm.var (hu 6 (by omega))
    have HBR := hcm.below
    clear hf hj hr hu hcm hlsz hdo hdi hNV
    rw [E8]
    clear E8
    rw [EV]
    clear EV
    generalize f 151 = g151
    generalize f 152 = g152
    generalize f 153 = g153
    generalize f 154 = g154
    generalize f 155 = g155
    generalize f 156 = g156
    exact hQ.out _ _ _ _ _ _ _ _ hBV HBR
set_option maxRecDepth 100000 in
set_option maxHeartbeats 16000000 in
theorem known_r15 (ops : Array Oper) (hops : (Try.f3.body.bind (regOf 15)) = some ops) {w0 : World} {X : Ro} {bx : Nat} {px0 px1 px2 px3 px4 px5 : Option Addr} {kx0 kx1 kx2 kx3 kx4 kx5 : Nat} {Q : Exit → Act → World → Prop} {x0 x1 x2 x3 x4 x5 x6 x7 x8 x10 x11 x12 x13 x14 x15 x16 x17 x18 x19 x20 x21 x22 x23 x24 x25 x26 x27 x28 x29 x30 x31 x32 x33 x34 x35 x36 x37 x38 x39 x40 x41 x42 x43 x44 x45 x46 x47 x48 x49 x50 x51 x52 x53 x54 x55 x56 x57 x58 x59 x60 x61 x62 x63 x64 x65 x66 x67 x68 x69 x70 x71 x72 x73 x74 x75 x76 x77 x78 x79 x80 x81 x82 x83 x84 x85 x86 x87 x88 x89 x90 x91 x92 x93 x94 x95 x96 x97 x98 x99 x100 x101 x102 x103 x104 x105 x106 x107 x108 x109 x110 x111 x112 x113 x114 x115 x116 x117 x118 x119 x120 x121 x122 x123 x124 x125 x126 x127 x128 x129 x130 x131 x132 x133 x134 x135 x136 x137 x138 x139 x140 x141 x142 x143 x144 x145 x146 x147 x148 x149 x150 x151 x152 x153 x154 x155 x156 x157 x158 x159 x160 x161 x162 x163 x164 x165 x166 x167 x168 x169 x170 x171 x172 x173 x174 x175 x176 x177 x178 x179 x180 x181 x182 x183 x184 x185 x186 x187 x188 x189 x190 x191 x192 x193 x194 x195 x196 x197 x198 x199 x200 x201 x202 x203 x204 x205 x206 x207 x208 x209 x210 x211 x212 x213 x214 x215 x216 x217 x218 x219 x220 x221 x222 x223 x224 x225 x226 x227 x228 x229 x230 x231 x232 x233 x234 x235 x236 x237 x238 x239 x240 x241 x242 x243 x244 x245 x246 x247 x248 x249 x250 x251 x252 x253 x254 x255 x256 x257 x258 x259 x260 x261 x262 x263 x264 x265 x266 x267 x268 x269 x270 x271 x272 x273 x274 x275 x276 x277 x278 x279 x280 x281 x282 x283 x284 x285 x286 x287 x288 x289 x290 x291 x292 x293 x294 x295 x296 x297 x298 x299 x300 x301 x302 x303 x304 x305 x306 x307 x308 x309 x310 x311 x312 x313 x314 x315 x316 x317 x318 x319 x320 x321 x322 x323 x324 x325 : Value}
    (BX : Hid (Box w0 bx #[.slice px0 X.hosts.length kx0, .slice px1 X.waves.length kx1, .bool X.rate.neg, .slice px2 X.rate.num.length kx2, .slice px3 X.rate.den.length kx3, .bool X.bound.neg, .slice px4 X.bound.num.length kx4, .slice px5 X.bound.den.length kx5] 28)) (HRX : Hid (IsR w0 (.agg #[.slice px0 X.hosts.length kx0, .slice px1 X.waves.length kx1, .bool X.rate.neg, .slice px2 X.rate.num.length kx2, .slice px3 X.rate.den.length kx3, .bool X.bound.neg, .slice px4 X.bound.num.length kx4, .slice px5 X.bound.den.length kx5]) X)) (HXB : Hid (¬ ValidR X))
    (hQ : ∀ (w10 : World) (y12 y157 y158 y159 y160 y161 y162 : Value), Below w0.heap.size w0 w10 → Q .normal ⟨[x0, x1, x2, x3, x4, x5, x6, x7, x8, .pointer (some ⟨bx, 0, none⟩), x10, x11, y12, .int .i64 1, x14, x15, x16, x17, x18, x19, x20, x21, x22, x23, x24, x25, x26, x27, x28, x29, x30, x31, x32, x33, x34, x35, x36, x37, x38, x39, x40, x41, x42, x43, x44, x45, x46, x47, x48, x49, x50, x51, x52, x53, x54, x55, x56, x57, x58, x59, x60, x61, x62, x63, x64, x65, x66, x67, x68, x69, x70, x71, x72, x73, x74, x75, x76, x77, x78, x79, x80, x81, x82, x83, x84, x85, x86, x87, x88, x89, x90, x91, x92, x93, x94, x95, x96, x97, x98, x99, x100, x101, x102, x103, x104, x105, x106, x107, x108, x109, x110, x111, x112, x113, x114, x115, x116, x117, x118, x119, x120, x121, x122, x123, x124, x125, x126, x127, x128, x129, x130, x131, x132, x133, x134, x135, x136, x137, x138, x139, x140, x141, x142, x143, x144, x145, x146, x147, x148, x149, x150, x151, x152, x153, x154, x155, x156, y157, y158, y159, y160, y161, y162, x163, x164, x165, x166, x167, x168, x169, x170, x171, x172, x173, x174, x175, x176, x177, x178, x179, x180, x181, x182, x183, x184, x185, x186, x187, x188, x189, x190, x191, x192, x193, x194, x195, x196, x197, x198, x199, x200, x201, x202, x203, x204, x205, x206, x207, x208, x209, x210, x211, x212, x213, x214, x215, x216, x217, x218, x219, x220, x221, x222, x223, x224, x225, x226, x227, x228, x229, x230, x231, x232, x233, x234, x235, x236, x237, x238, x239, x240, x241, x242, x243, x244, x245, x246, x247, x248, x249, x250, x251, x252, x253, x254, x255, x256, x257, x258, x259, x260, x261, x262, x263, x264, x265, x266, x267, x268, x269, x270, x271, x272, x273, x274, x275, x276, x277, x278, x279, x280, x281, x282, x283, x284, x285, x286, x287, x288, x289, x290, x291, x292, x293, x294, x295, x296, x297, x298, x299, x300, x301, x302, x303, x304, x305, x306, x307, x308, x309, x310, x311, x312, x313, x314, x315, x316, x317, x318, x319, x320, x321, x322, x323, x324, x325].toArray, []⟩ w10) :
    (Code.region 15 ops true).wp Try.prog Q ⟨[x0, x1, x2, x3, x4, x5, x6, x7, x8, .pointer (some ⟨bx, 0, none⟩), x10, x11, x12, x13, x14, x15, x16, x17, x18, x19, x20, x21, x22, x23, x24, x25, x26, x27, x28, x29, x30, x31, x32, x33, x34, x35, x36, x37, x38, x39, x40, x41, x42, x43, x44, x45, x46, x47, x48, x49, x50, x51, x52, x53, x54, x55, x56, x57, x58, x59, x60, x61, x62, x63, x64, x65, x66, x67, x68, x69, x70, x71, x72, x73, x74, x75, x76, x77, x78, x79, x80, x81, x82, x83, x84, x85, x86, x87, x88, x89, x90, x91, x92, x93, x94, x95, x96, x97, x98, x99, x100, x101, x102, x103, x104, x105, x106, x107, x108, x109, x110, x111, x112, x113, x114, x115, x116, x117, x118, x119, x120, x121, x122, x123, x124, x125, x126, x127, x128, x129, x130, x131, x132, x133, x134, x135, x136, x137, x138, x139, x140, x141, x142, x143, x144, x145, x146, x147, x148, x149, x150, x151, x152, x153, x154, x155, x156, x157, x158, x159, x160, x161, x162, x163, x164, x165, x166, x167, x168, x169, x170, x171, x172, x173, x174, x175, x176, x177, x178, x179, x180, x181, x182, x183, x184, x185, x186, x187, x188, x189, x190, x191, x192, x193, x194, x195, x196, x197, x198, x199, x200, x201, x202, x203, x204, x205, x206, x207, x208, x209, x210, x211, x212, x213, x214, x215, x216, x217, x218, x219, x220, x221, x222, x223, x224, x225, x226, x227, x228, x229, x230, x231, x232, x233, x234, x235, x236, x237, x238, x239, x240, x241, x242, x243, x244, x245, x246, x247, x248, x249, x250, x251, x252, x253, x254, x255, x256, x257, x258, x259, x260, x261, x262, x263, x264, x265, x266, x267, x268, x269, x270, x271, x272, x273, x274, x275, x276, x277, x278, x279, x280, x281, x282, x283, x284, x285, x286, x287, x288, x289, x290, x291, x292, x293, x294, x295, x296, x297, x298, x299, x300, x301, x302, x303, x304, x305, x306, x307, x308, x309, x310, x311, x312, x313, x314, x315, x316, x317, x318, x319, x320, x321, x322, x323, x324, x325].toArray, []⟩ w0 := by
  simp only [Try.f3, Option.bind_some, regOf] at hops
  replace hops := Option.some.inj hops
  subst hops
  replace hQ := Lib.hid hQ
  have hmk40 : ∀ W : World, (Instr.makeSlice 32 (.int .i64 40) (.int .i64 40)).run Try.prog W = .ok (.slice (some ⟨W.heap.size, 0, none⟩) 40 40) (W.alloc (.cells #[.bool false, .bool false, .bool false, .bool false, .bool false, .bool false, .bool false, .bool false, .bool false, .bool false, .bool false, .bool false, .bool false, .bool false, .bool false, .bool false, .bool false, .bool false, .bool false, .bool false, .bool false, .bool false, .bool false, .bool false, .bool false, .bool false, .bool false, .bool false, .bool false, .bool false, .bool false, .bool false, .bool false, .bool false, .bool false, .bool false, .bool false, .bool false, .bool false, .bool false] 4)) := by
    intro W
    have h := run_make_row' (P := Try.prog) 32 4 (.bool false) 1 Try.underlying32 (by kernel_rfl) rfl .i64 .i64 40 (by omega) (by omega) W
    rw [show madeCells #[Value.bool false] 40 = #[.bool false, .bool false, .bool false, .bool false, .bool false, .bool false, .bool false, .bool false, .bool false, .bool false, .bool false, .bool false, .bool false, .bool false, .bool false, .bool false, .bool false, .bool false, .bool false, .bool false, .bool false, .bool false, .bool false, .bool false, .bool false, .bool false, .bool false, .bool false, .bool false, .bool false, .bool false, .bool false, .bool false, .bool false, .bool false, .bool false, .bool false, .bool false, .bool false, .bool false] from by kernel_rfl] at h
    exact h
  refine wp_region_gj (J := GJ _ (SS 999 (fun κ => match κ with | 0 => (.eq (.agg #[.slice px0 X.hosts.length kx0, .slice px1 X.waves.length kx1, .bool X.rate.neg, .slice px2 X.rate.num.length kx2, .slice px3 X.rate.den.length kx3, .bool X.bound.neg, .slice px4 X.bound.num.length kx4, .slice px5 X.bound.den.length kx5])) | 1 => (kB (List.replicate 40 false)) | 2 => (kP (fun v => ∃ p n c, v = .tuple #[.slice p n c, .int .i64 1])) | 3 => (kP (fun v => ∃ p n c, v = .tuple #[.slice p n c, .int .i64 1])) | 4 => (kP (fun v => ∃ p n c, v = .slice p n c)) | 5 => (.eq (.int .i64 1)) | 6 => (kP (fun v => ∃ p n c, v = .slice p n c)) | 7 => (.eq (.int .i64 1)) | _ => .any)) (CS w0 999 (fun _ => True)) _) (by kernel_rfl) ?_ ?_ (GJ.start CS.start)
  · intro listed a w9 i hr hj
    obtain ⟨hi12, hun, _, _, _⟩ := ready_mem hr
    have h12 : i ∈ List.range 8 := List.mem_range.2 hi12
    simp only [List.range, List.range.loop, List.mem_cons, List.not_mem_nil, or_false] at h12
    obtain ⟨f, ha, hcm, hf, hdo, hdi⟩ := hj.open2 [158, 159, 160, 157, 161, 162, 12, 13] (by kernel_rfl) (by kernel_rfl)
    simp only [List.foldl_cons, List.foldl_nil, List.setIfInBounds_toArray, List.set_cons_zero, List.set_cons_succ] at ha
    subst ha
    replace hcm : CS w0 999 (fun _ => True) listed f w9 := hcm
    have hlsz : listed.size = 8 := hj.lsize
    rcases h12 with rfl | rfl | rfl | rfl | rfl | rfl | rfl | rfl
    · have nS : ¬ up listed 999 := not_up_ge (by rw [hlsz]; decide)
      have HCM := Lib.hid hcm; clear hcm
      have hcs := ((BX.out.after HCM.out.below).cells8)
      obtain ⟨d0, d1, d2, d3, d4, d5, d6, d7⟩ := hcs
      have dl := (BX.out.after HCM.out.below).lt
      refine GJ.op hj hdo hr rfl _ hdi (fun K hK => ?_)
      simp only [Act.put, List.setIfInBounds_toArray] at hK ⊢; clear hj hf hdo hdi
      go_simp
      exact hK _ _ (fun k v _ _ h => h.keep (Below.refl _ _)) (fun t ht => SS.of (.eq (.agg #[.slice px0 X.hosts.length kx0, .slice px1 X.waves.length kx1, .bool X.rate.neg, .slice px2 X.rate.num.length kx2, .slice px3 X.rate.den.length kx3, .bool X.bound.neg, .slice px4 X.bound.num.length kx4, .slice px5 X.bound.den.length kx5])) rfl rfl) (HCM.out.keep (by decide) (fun _ _ h _ => h) (Below.refl _ _))
    · have nS : ¬ up listed 999 := not_up_ge (by rw [hlsz]; decide)
      have HCM := Lib.hid hcm; clear hcm
      refine GJ.op hj hdo hr rfl _ hdi (fun K hK => ?_)
      simp only [Act.put, List.setIfInBounds_toArray] at hK ⊢; clear hj hf hdo hdi
      go_simp
      exact hK _ _ (fun k v _ _ h => h.keep (held_alloc (Below.refl _ _))) (fun t ht => SS.of (kB (List.replicate 40 false)) rfl (fun _ => SlB.lit (l := List.replicate 40 false) (Box.new _ _ _) rfl (by decide))) (HCM.out.keep (by decide) (fun _ _ h _ => h) (held_alloc (Below.refl _ _)))
    · have nS : ¬ up listed 999 := not_up_ge (by rw [hlsz]; decide)
      have e1 : f 158 = .agg #[.slice px0 X.hosts.length kx0, .slice px1 X.waves.length kx1, .bool X.rate.neg, .slice px2 X.rate.num.length kx2, .slice px3 X.rate.den.length kx3, .bool X.bound.neg, .slice px4 X.bound.num.length kx4, .slice px5 X.bound.den.length kx5] := hf 0 _ _ rfl rfl (up_dep hr (by kernel_rfl))
      have s2 : SlB w9 (f 159) (List.replicate 40 false) := (hf 1 _ _ rfl rfl (up_dep hr (by kernel_rfl))) nS
      have HCM := Lib.hid hcm; clear hcm
      refine GJ.op hj hdo hr rfl _ hdi (fun K hK => ?_)
      simp only [Act.put, List.setIfInBounds_toArray] at hK ⊢; clear hj hf hdo hdi
      rw [e1] at hK ⊢; clear e1
      go_simp
      refine (Run_c _ _ _ X _ (HRX.out.after HCM.out.below) s2).mono ?_
      rw [run_bad HXB.out]
      rintro e w11 ⟨v11, rfl, hv, hb⟩
      obtain ⟨pp, cc, rfl, _⟩ := (show SlD w11 v11 [] from hv)
      exact hK _ _ (fun k v _ _ h => h.keep (hb)) (fun t ht => SS.of (kP (fun v => ∃ p n c, v = .tuple #[.slice p n c, .int .i64 1])) rfl (fun _ => ⟨_, _, _, rfl⟩)) (HCM.out.keep (by decide) (fun _ _ h _ => h) (hb))
    · have nS : ¬ up listed 999 := not_up_ge (by rw [hlsz]; decide)
      have s1 : (fun v => ∃ p n c, v = .tuple #[.slice p n c, .int .i64 1]) (f 160) := (hf 2 _ _ rfl rfl (up_dep hr (by kernel_rfl))) nS
      have HCM := Lib.hid hcm; clear hcm
      obtain ⟨pp, nn, cc, zz⟩ := s1
      refine GJ.op hj hdo hr rfl _ hdi (fun K hK => ?_)
      simp only [Act.put, List.setIfInBounds_toArray] at hK ⊢; clear hj hf hdo hdi
      rw [zz] at hK ⊢
      go_simp
      exact hK _ _ (fun k v _ _ h => h.keep (Below.refl _ _)) (fun t ht => SS.of (kP (fun v => ∃ p n c, v = .tuple #[.slice p n c, .int .i64 1])) rfl (fun _ => ⟨_, _, _, rfl⟩)) (HCM.out.keep (by decide) (fun _ _ h _ => h) (Below.refl _ _))
    · have nS : ¬ up listed 999 := not_up_ge (by rw [hlsz]; decide)
      have s1 : (fun v => ∃ p n c, v = .tuple #[.slice p n c, .int .i64 1]) (f 157) := (hf 3 _ _ rfl rfl (up_dep hr (by kernel_rfl))) nS
      have HCM := Lib.hid hcm; clear hcm
      obtain ⟨pp, nn, cc, zz⟩ := s1
      refine GJ.op hj hdo hr rfl _ hdi (fun K hK => ?_)
      simp only [Act.put, List.setIfInBounds_toArray] at hK ⊢; clear hj hf hdo hdi
      rw [zz] at hK ⊢
      go_simp
      exact hK _ _ (fun k v _ _ h => h.keep (Below.refl _ _)) (fun t ht => SS.of (kP (fun v => ∃ p n c, v = .slice p n c)) rfl (fun _ => ⟨_, _, _, rfl⟩)) (HCM.out.keep (by decide) (fun _ _ h _ => h) (Below.refl _ _))
    · have nS : ¬ up listed 999 := not_up_ge (by rw [hlsz]; decide)
      have s1 : (fun v => ∃ p n c, v = .tuple #[.slice p n c, .int .i64 1]) (f 157) := (hf 3 _ _ rfl rfl (up_dep hr (by kernel_rfl))) nS
      have HCM := Lib.hid hcm; clear hcm
      obtain ⟨pp, nn, cc, zz⟩ := s1
      refine GJ.op hj hdo hr rfl _ hdi (fun K hK => ?_)
      simp only [Act.put, List.setIfInBounds_toArray] at hK ⊢; clear hj hf hdo hdi
      rw [zz] at hK ⊢
      go_simp
      exact hK _ _ (fun k v _ _ h => h.keep (Below.refl _ _)) (fun t ht => SS.of (.eq (.int .i64 1)) rfl rfl) (HCM.out.keep (by decide) (fun _ _ h _ => h) (Below.refl _ _))
    · have nS : ¬ up listed 999 := not_up_ge (by rw [hlsz]; decide)
      have s1 : (fun v => ∃ p n c, v = .slice p n c) (f 161) := (hf 4 _ _ rfl rfl (up_dep hr (by kernel_rfl))) nS
      have HCM := Lib.hid hcm; clear hcm
      obtain ⟨pp, nn, cc, zz⟩ := s1
      refine GJ.op hj hdo hr rfl _ hdi (fun K hK => ?_)
      simp only [Act.put, List.setIfInBounds_toArray] at hK ⊢; clear hj hf hdo hdi
      rw [zz] at hK ⊢
      go_simp
      exact hK _ _ (fun k v _ _ h => h.keep (Below.refl _ _)) (fun t ht => SS.of (kP (fun v => ∃ p n c, v = .slice p n c)) rfl (fun _ => ⟨_, _, _, rfl⟩)) (HCM.out.keep (by decide) (fun _ _ h _ => h) (Below.refl _ _))
    · have nS : ¬ up listed 999 := not_up_ge (by rw [hlsz]; decide)
      have e1 : f 162 = .int .i64 1 := hf 5 _ _ rfl rfl (up_dep hr (by kernel_rfl))
      have HCM := Lib.hid hcm; clear hcm
      refine GJ.op hj hdo hr rfl _ hdi (fun K hK => ?_)
      simp only [Act.put, List.setIfInBounds_toArray] at hK ⊢; clear hj hf hdo hdi
      rw [e1] at hK ⊢; clear e1
      go_simp
      exact hK _ _ (fun k v _ _ h => h.keep (Below.refl _ _)) (fun t ht => SS.of (.eq (.int .i64 1)) rfl rfl) (HCM.out.keep (by decide) (fun _ _ h _ => h) (Below.refl _ _))
  · intro listed a w10 hr hj
    have hu : ∀ k, k < 8 → up listed k := fun k hk => all_up (by kernel_rfl) hj.lsize hr k hk
    have hlsz : listed.size = 8 := hj.lsize
    obtain ⟨f, ha, hcm, hf, hdo, hdi⟩ := hj.open2 [158, 159, 160, 157, 161, 162, 12, 13] (by kernel_rfl) (by kernel_rfl)
    simp only [List.foldl_cons, List.foldl_nil, List.setIfInBounds_toArray, List.set_cons_zero, List.set_cons_succ] at ha
    subst ha
    replace hcm : CS w0 999 (fun _ => True) listed f w10 := hcm
    have E7 : f 13 = .int .i64 1 := hf 7 _ _ rfl rfl (hu 7 (by omega))
    have HBR := hcm.below
    clear hf hj hr hu hcm hlsz hdo hdi
    rw [E7]
    clear E7
    generalize f 12 = g12
    generalize f 157 = g157
    generalize f 158 = g158
    generalize f 159 = g159
    generalize f 160 = g160
    generalize f 161 = g161
    generalize f 162 = g162
    exact hQ.out _ _ _ _ _ _ _ _ HBR
set_option maxRecDepth 100000 in
set_option maxHeartbeats 16000000 in
theorem known_r17 (ops : Array Oper) (hops : (Try.f3.body.bind (regOf 17)) = some ops) {w0 : World} {X : Ro} {bx : Nat} {px0 px1 px2 px3 px4 px5 : Option Addr} {kx0 kx1 kx2 kx3 kx4 kx5 : Nat} {Q : Exit → Act → World → Prop} {x0 x1 x2 x3 x4 x5 x6 x7 x8 x10 x11 x12 x13 x14 x15 x16 x17 x18 x19 x20 x21 x22 x23 x24 x25 x26 x27 x28 x29 x30 x31 x32 x33 x34 x35 x36 x37 x38 x39 x40 x41 x42 x43 x44 x45 x46 x47 x48 x49 x50 x51 x52 x53 x54 x55 x56 x57 x58 x59 x60 x61 x62 x63 x64 x65 x66 x67 x68 x69 x70 x71 x72 x73 x74 x75 x76 x77 x78 x79 x80 x81 x82 x83 x84 x85 x86 x87 x88 x89 x90 x91 x92 x93 x94 x95 x96 x97 x98 x99 x100 x101 x102 x103 x104 x105 x106 x107 x108 x109 x110 x111 x112 x113 x114 x115 x116 x117 x118 x119 x120 x121 x122 x123 x124 x125 x126 x127 x128 x129 x130 x131 x132 x133 x134 x135 x136 x137 x138 x139 x140 x141 x142 x143 x144 x145 x146 x147 x148 x149 x150 x151 x152 x153 x154 x155 x156 x157 x158 x159 x160 x161 x162 x163 x164 x165 x166 x167 x168 x169 x170 x171 x172 x173 x174 x175 x176 x177 x178 x179 x180 x181 x182 x183 x184 x185 x186 x187 x188 x189 x190 x191 x192 x193 x194 x195 x196 x197 x198 x199 x200 x201 x202 x203 x204 x205 x206 x207 x208 x209 x210 x211 x212 x213 x214 x215 x216 x217 x218 x219 x220 x221 x222 x223 x224 x225 x226 x227 x228 x229 x230 x231 x232 x233 x234 x235 x236 x237 x238 x239 x240 x241 x242 x243 x244 x245 x246 x247 x248 x249 x250 x251 x252 x253 x254 x255 x256 x257 x258 x259 x260 x261 x262 x263 x264 x265 x266 x267 x268 x269 x270 x271 x272 x273 x274 x275 x276 x277 x278 x279 x280 x281 x282 x283 x284 x285 x286 x287 x288 x289 x290 x291 x292 x293 x294 x295 x296 x297 x298 x299 x300 x301 x302 x303 x304 x305 x306 x307 x308 x309 x310 x311 x312 x313 x314 x315 x316 x317 x318 x319 x320 x321 x322 x323 x324 x325 : Value}
    (BX : Hid (Box w0 bx #[.slice px0 X.hosts.length kx0, .slice px1 X.waves.length kx1, .bool X.rate.neg, .slice px2 X.rate.num.length kx2, .slice px3 X.rate.den.length kx3, .bool X.bound.neg, .slice px4 X.bound.num.length kx4, .slice px5 X.bound.den.length kx5] 28)) (HRX : Hid (IsR w0 (.agg #[.slice px0 X.hosts.length kx0, .slice px1 X.waves.length kx1, .bool X.rate.neg, .slice px2 X.rate.num.length kx2, .slice px3 X.rate.den.length kx3, .bool X.bound.neg, .slice px4 X.bound.num.length kx4, .slice px5 X.bound.den.length kx5]) X)) (HXB : Hid (¬ ValidR X))
    (hQ : ∀ (w10 : World) (bv : Nat) (y168 y169 y170 y171 y172 y173 : Value), w0.heap.size ≤ bv → Below w0.heap.size w0 w10 → Q .normal ⟨[x0, x1, x2, x3, x4, x5, x6, x7, x8, .pointer (some ⟨bx, 0, none⟩), x10, x11, x12, x13, x14, x15, .pointer (some ⟨bv, 0, none⟩), .int .i64 1, x18, x19, x20, x21, x22, x23, x24, x25, x26, x27, x28, x29, x30, x31, x32, x33, x34, x35, x36, x37, x38, x39, x40, x41, x42, x43, x44, x45, x46, x47, x48, x49, x50, x51, x52, x53, x54, x55, x56, x57, x58, x59, x60, x61, x62, x63, x64, x65, x66, x67, x68, x69, x70, x71, x72, x73, x74, x75, x76, x77, x78, x79, x80, x81, x82, x83, x84, x85, x86, x87, x88, x89, x90, x91, x92, x93, x94, x95, x96, x97, x98, x99, x100, x101, x102, x103, x104, x105, x106, x107, x108, x109, x110, x111, x112, x113, x114, x115, x116, x117, x118, x119, x120, x121, x122, x123, x124, x125, x126, x127, x128, x129, x130, x131, x132, x133, x134, x135, x136, x137, x138, x139, x140, x141, x142, x143, x144, x145, x146, x147, x148, x149, x150, x151, x152, x153, x154, x155, x156, x157, x158, x159, x160, x161, x162, x163, x164, x165, x166, x167, y168, y169, y170, y171, y172, y173, x174, x175, x176, x177, x178, x179, x180, x181, x182, x183, x184, x185, x186, x187, x188, x189, x190, x191, x192, x193, x194, x195, x196, x197, x198, x199, x200, x201, x202, x203, x204, x205, x206, x207, x208, x209, x210, x211, x212, x213, x214, x215, x216, x217, x218, x219, x220, x221, x222, x223, x224, x225, x226, x227, x228, x229, x230, x231, x232, x233, x234, x235, x236, x237, x238, x239, x240, x241, x242, x243, x244, x245, x246, x247, x248, x249, x250, x251, x252, x253, x254, x255, x256, x257, x258, x259, x260, x261, x262, x263, x264, x265, x266, x267, x268, x269, x270, x271, x272, x273, x274, x275, x276, x277, x278, x279, x280, x281, x282, x283, x284, x285, x286, x287, x288, x289, x290, x291, x292, x293, x294, x295, x296, x297, x298, x299, x300, x301, x302, x303, x304, x305, x306, x307, x308, x309, x310, x311, x312, x313, x314, x315, x316, x317, x318, x319, x320, x321, x322, x323, x324, x325].toArray, []⟩ w10) :
    (Code.region 17 ops true).wp Try.prog Q ⟨[x0, x1, x2, x3, x4, x5, x6, x7, x8, .pointer (some ⟨bx, 0, none⟩), x10, x11, x12, x13, x14, x15, x16, x17, x18, x19, x20, x21, x22, x23, x24, x25, x26, x27, x28, x29, x30, x31, x32, x33, x34, x35, x36, x37, x38, x39, x40, x41, x42, x43, x44, x45, x46, x47, x48, x49, x50, x51, x52, x53, x54, x55, x56, x57, x58, x59, x60, x61, x62, x63, x64, x65, x66, x67, x68, x69, x70, x71, x72, x73, x74, x75, x76, x77, x78, x79, x80, x81, x82, x83, x84, x85, x86, x87, x88, x89, x90, x91, x92, x93, x94, x95, x96, x97, x98, x99, x100, x101, x102, x103, x104, x105, x106, x107, x108, x109, x110, x111, x112, x113, x114, x115, x116, x117, x118, x119, x120, x121, x122, x123, x124, x125, x126, x127, x128, x129, x130, x131, x132, x133, x134, x135, x136, x137, x138, x139, x140, x141, x142, x143, x144, x145, x146, x147, x148, x149, x150, x151, x152, x153, x154, x155, x156, x157, x158, x159, x160, x161, x162, x163, x164, x165, x166, x167, x168, x169, x170, x171, x172, x173, x174, x175, x176, x177, x178, x179, x180, x181, x182, x183, x184, x185, x186, x187, x188, x189, x190, x191, x192, x193, x194, x195, x196, x197, x198, x199, x200, x201, x202, x203, x204, x205, x206, x207, x208, x209, x210, x211, x212, x213, x214, x215, x216, x217, x218, x219, x220, x221, x222, x223, x224, x225, x226, x227, x228, x229, x230, x231, x232, x233, x234, x235, x236, x237, x238, x239, x240, x241, x242, x243, x244, x245, x246, x247, x248, x249, x250, x251, x252, x253, x254, x255, x256, x257, x258, x259, x260, x261, x262, x263, x264, x265, x266, x267, x268, x269, x270, x271, x272, x273, x274, x275, x276, x277, x278, x279, x280, x281, x282, x283, x284, x285, x286, x287, x288, x289, x290, x291, x292, x293, x294, x295, x296, x297, x298, x299, x300, x301, x302, x303, x304, x305, x306, x307, x308, x309, x310, x311, x312, x313, x314, x315, x316, x317, x318, x319, x320, x321, x322, x323, x324, x325].toArray, []⟩ w0 := by
  simp only [Try.f3, Option.bind_some, regOf] at hops
  replace hops := Option.some.inj hops
  subst hops
  replace hQ := Lib.hid hQ
  refine wp_region_gj (J := GJ _ (SS 7 (fun κ => match κ with | 0 => (.eq (.agg #[.slice px0 X.hosts.length kx0, .slice px1 X.waves.length kx1, .bool X.rate.neg, .slice px2 X.rate.num.length kx2, .slice px3 X.rate.den.length kx3, .bool X.bound.neg, .slice px4 X.bound.num.length kx4, .slice px5 X.bound.den.length kx5])) | 1 => (kF (fr false 3 2)) | 2 => (kU (F0) (1)) | 3 => (kU (F0) (1)) | 4 => (kF (F0)) | 5 => (.eq (.int .i64 1)) | 6 => .any | 8 => (.eq (.int .i64 1)) | _ => .any)) (CA w0 6 7 16 (fun w b => Box w b #[.bool false, .slice none 0 0, .slice none 0 0] 26) (fun _ _ => True)) _) (by kernel_rfl) ?_ ?_ (GJ.start CA.start)
  · intro listed a w9 i hr hj
    obtain ⟨hi12, hun, _, _, _⟩ := ready_mem hr
    have h12 : i ∈ List.range 9 := List.mem_range.2 hi12
    simp only [List.range, List.range.loop, List.mem_cons, List.not_mem_nil, or_false] at h12
    obtain ⟨f, ha, hcm, hf, hdo, hdi⟩ := hj.open2 [169, 170, 171, 168, 172, 173, 16, 17] (by kernel_rfl) (by kernel_rfl)
    simp only [List.foldl_cons, List.foldl_nil, List.setIfInBounds_toArray, List.set_cons_zero, List.set_cons_succ] at ha
    subst ha
    replace hcm : CA w0 6 7 16 (fun w b => Box w b #[.bool false, .slice none 0 0, .slice none 0 0] 26) (fun _ _ => True) listed f w9 := hcm
    have hlsz : listed.size = 9 := hj.lsize
    rcases h12 with rfl | rfl | rfl | rfl | rfl | rfl | rfl | rfl | rfl
    · have nS : ¬ up listed 7 := fun h => not_up hun (hj.closed 7 0 h (by kernel_rfl))
      have HCM := Lib.hid hcm; clear hcm
      have hcs := ((BX.out.after HCM.out.below).cells8)
      obtain ⟨d0, d1, d2, d3, d4, d5, d6, d7⟩ := hcs
      have dl := (BX.out.after HCM.out.below).lt
      refine GJ.op hj hdo hr rfl _ hdi (fun K hK => ?_)
      simp only [Act.put, List.setIfInBounds_toArray] at hK ⊢; clear hj hf hdo hdi
      go_simp
      exact hK _ _ (fun k v _ _ h => h.keep (Below.refl _ _)) (fun t ht => SS.of (.eq (.agg #[.slice px0 X.hosts.length kx0, .slice px1 X.waves.length kx1, .bool X.rate.neg, .slice px2 X.rate.num.length kx2, .slice px3 X.rate.den.length kx3, .bool X.bound.neg, .slice px4 X.bound.num.length kx4, .slice px5 X.bound.den.length kx5])) rfl rfl) (HCM.out.keep (by decide) (by decide) (by rfl) (stayBox _ _) stayTrue (Below.refl _ _))
    · have nS : ¬ up listed 7 := fun h => not_up hun (hj.closed 7 1 h (by kernel_rfl))
      have HCM := Lib.hid hcm; clear hcm
      refine GJ.op hj hdo hr rfl _ hdi (fun K hK => ?_)
      simp only [Act.put, List.setIfInBounds_toArray] at hK ⊢; clear hj hf hdo hdi
      go_simp
      refine (of32_c _ 3 2 (by omega) (by omega) (by omega) (by omega)).mono ?_
      rw [of_32]
      rintro e w11 ⟨v11, rfl, hv, hb⟩
      exact hK _ _ (fun k v _ _ h => h.keep (hb)) (fun t ht => SS.of (kF (fr false 3 2)) rfl (fun _ => hv)) (HCM.out.keep (by decide) (by decide) (by rfl) (stayBox _ _) stayTrue (hb))
    · have nS : ¬ up listed 7 := fun h => not_up hun (hj.closed 7 2 h (by kernel_rfl))
      have e1 : f 169 = .agg #[.slice px0 X.hosts.length kx0, .slice px1 X.waves.length kx1, .bool X.rate.neg, .slice px2 X.rate.num.length kx2, .slice px3 X.rate.den.length kx3, .bool X.bound.neg, .slice px4 X.bound.num.length kx4, .slice px5 X.bound.den.length kx5] := hf 0 _ _ rfl rfl (up_dep hr (by kernel_rfl))
      have s2 : IsF w9 (f 170) (fr false 3 2) := (hf 1 _ _ rfl rfl (up_dep hr (by kernel_rfl))) nS
      have HCM := Lib.hid hcm; clear hcm
      refine GJ.op hj hdo hr rfl _ hdi (fun K hK => ?_)
      simp only [Act.put, List.setIfInBounds_toArray] at hK ⊢; clear hj hf hdo hdi
      rw [e1] at hK ⊢; clear e1
      go_simp
      refine (Chance_c _ _ _ X _ (HRX.out.after HCM.out.below) s2).mono ?_
      rw [chance_bad HXB.out]
      rintro e w11 ⟨v11, rfl, hv, hb⟩
      have hv : IsF w11 v11 (F0) := hv
      exact hK _ _ (fun k v _ _ h => h.keep (hb)) (fun t ht => SS.of (kU (F0) (1)) rfl ⟨⟨_, rfl⟩, fun _ => ⟨_, rfl, hv⟩⟩) (HCM.out.keep (by decide) (by decide) (by rfl) (stayBox _ _) stayTrue (hb))
    · have nS : ¬ up listed 7 := fun h => not_up hun (hj.closed 7 3 h (by kernel_rfl))
      have s1 : ∃ u, f 171 = .tuple #[u, .int .i64 1] ∧ IsF w9 u (F0) := (hf 2 _ _ rfl rfl (up_dep hr (by kernel_rfl))).2 nS
      have HCM := Lib.hid hcm; clear hcm
      obtain ⟨uu, zz, hu⟩ := s1
      refine GJ.op hj hdo hr rfl _ hdi (fun K hK => ?_)
      simp only [Act.put, List.setIfInBounds_toArray] at hK ⊢; clear hj hf hdo hdi
      rw [zz] at hK ⊢
      go_simp
      exact hK _ _ (fun k v _ _ h => h.keep (Below.refl _ _)) (fun t ht => SS.of (kU (F0) (1)) rfl ⟨⟨_, rfl⟩, fun _ => ⟨_, rfl, hu⟩⟩) (HCM.out.keep (by decide) (by decide) (by rfl) (stayBox _ _) stayTrue (Below.refl _ _))
    · have nS : ¬ up listed 7 := fun h => not_up hun (hj.closed 7 4 h (by kernel_rfl))
      have s1 : ∃ u, f 168 = .tuple #[u, .int .i64 1] ∧ IsF w9 u (F0) := (hf 3 _ _ rfl rfl (up_dep hr (by kernel_rfl))).2 nS
      have HCM := Lib.hid hcm; clear hcm
      obtain ⟨uu, zz, hu⟩ := s1
      refine GJ.op hj hdo hr rfl _ hdi (fun K hK => ?_)
      simp only [Act.put, List.setIfInBounds_toArray] at hK ⊢; clear hj hf hdo hdi
      rw [zz] at hK ⊢
      go_simp
      exact hK _ _ (fun k v _ _ h => h.keep (Below.refl _ _)) (fun t ht => SS.of (kF (F0)) rfl (fun _ => hu)) (HCM.out.keep (by decide) (by decide) (by rfl) (stayBox _ _) stayTrue (Below.refl _ _))
    · have s1 : ∃ u, f 168 = .tuple #[u, .int .i64 (1)] := (hf 3 _ _ rfl rfl (up_dep hr (by kernel_rfl))).1
      have HCM := Lib.hid hcm; clear hcm
      obtain ⟨uu, zz⟩ := s1
      refine GJ.op hj hdo hr rfl _ hdi (fun K hK => ?_)
      simp only [Act.put, List.setIfInBounds_toArray] at hK ⊢; clear hj hf hdo hdi
      rw [zz] at hK ⊢
      go_simp
      exact hK _ _ (fun k v _ _ h => h.keep (Below.refl _ _)) (fun t ht => SS.of (.eq (.int .i64 1)) rfl rfl) (HCM.out.keep (by decide) (by decide) (by rfl) (stayBox _ _) stayTrue (Below.refl _ _))
    · have nS : ¬ up listed 7 := fun h => not_up hun (hj.closed 7 6 h (by kernel_rfl))
      have HCM := Lib.hid hcm; clear hcm
      refine GJ.op hj hdo hr rfl _ hdi (fun K hK => ?_)
      simp only [Act.put, List.setIfInBounds_toArray] at hK ⊢; clear hj hf hdo hdi
      go_simp
      exact hK _ _ (fun k v _ _ h => h.keep (held_alloc (Below.refl _ _))) (fun t ht => SS.of .any rfl trivial) (HCM.out.alloc (by decide) nS (held_alloc (Below.refl _ _)) (by rfl) HCM.out.below.size (Box.new _ _ _))
    · have nS : ¬ up listed 7 := not_up hun
      have s1 : IsF w9 (f 172) (F0) := (hf 4 _ _ rfl rfl (up_dep hr (by kernel_rfl))) nS
      have HCM := Lib.hid hcm; clear hcm
      obtain ⟨bv, ev, hBv, hzv, _⟩ := HCM.out.var (up_dep hr (by kernel_rfl))
      have hbx := hzv nS
      obtain ⟨va, vb, zz, h1, h2⟩ := s1
      obtain ⟨pp, cc, rfl, _, _⟩ := h1.shape
      obtain ⟨qq, dd, rfl, _, _⟩ := h2.shape
      refine GJ.op hj hdo hr rfl _ hdi (fun K hK => ?_)
      simp only [Act.put] at hK ⊢; clear hj hf hdo hdi
      rw [zz] at hK ⊢
      rw [ev] at hK ⊢
      have kx0 := hbx.cell 0
      have kx1 := hbx.cell 1
      have kx2 := hbx.cell 2
      have fx0 := hbx.frozen 0
      have fx1 := hbx.frozen 1
      have fx2 := hbx.frozen 2
      have yl := hbx.lt
      have HBX := Lib.hid hbx
      clear hbx hzv
      go_simp
      exact hK undef _ (fun k v _ _ h => h.put (up_self (by rw [hlsz]; decide))) (fun t ht => by cases ht) (CA.put (by rw [hlsz]; decide) (((HCM.out.below.setCell hBv _).setCell hBv _).setCell hBv _) (by rfl) hBv trivial)
    · have e1 : f 173 = .int .i64 1 := hf 5 _ _ rfl rfl (up_dep hr (by kernel_rfl))
      have HCM := Lib.hid hcm; clear hcm
      refine GJ.op hj hdo hr rfl _ hdi (fun K hK => ?_)
      simp only [Act.put, List.setIfInBounds_toArray] at hK ⊢; clear hj hf hdo hdi
      rw [e1] at hK ⊢; clear e1
      go_simp
      exact hK _ _ (fun k v _ _ h => h.keep (Below.refl _ _)) (fun t ht => SS.of (.eq (.int .i64 1)) rfl rfl) (HCM.out.keep (by decide) (by decide) (by rfl) (stayBox _ _) stayTrue (Below.refl _ _))
  · intro listed a w10 hr hj
    have hu : ∀ k, k < 9 → up listed k := fun k hk => all_up (by kernel_rfl) hj.lsize hr k hk
    have hlsz : listed.size = 9 := hj.lsize
    obtain ⟨f, ha, hcm, hf, hdo, hdi⟩ := hj.open2 [169, 170, 171, 168, 172, 173, 16, 17] (by kernel_rfl) (by kernel_rfl)
    simp only [List.foldl_cons, List.foldl_nil, List.setIfInBounds_toArray, List.set_cons_zero, List.set_cons_succ] at ha
    subst ha
    replace hcm : CA w0 6 7 16 (fun w b => Box w b #[.bool false, .slice none 0 0, .slice none 0 0] 26) (fun _ _ => True) listed f w10 := hcm
    have E8 : f 17 = .int .i64 1 := hf 8 _ _ rfl rfl (hu 8 (by omega))
    obtain ⟨bv, EV, hBV, _, hNV⟩ := hcm.var (hu 6 (by omega))
    have HBR := hcm.below
    clear hf hj hr hu hcm hlsz hdo hdi hNV
    rw [E8]
    clear E8
    rw [EV]
    clear EV
    generalize f 168 = g168
    generalize f 169 = g169
    generalize f 170 = g170
    generalize f 171 = g171
    generalize f 172 = g172
    generalize f 173 = g173
    exact hQ.out _ _ _ _ _ _ _ _ hBV HBR
end Go.Proofs.Ytebmegodeglobaa

/- The examples of CanaryKnown: drawn regions of the walk (30, 31, 33, 36). -/
import Derived.Test.YtebmegodeglobaaQGr0
set_option linter.unusedVariables false
namespace Go.Proofs.Ytebmegodeglobaa
open Go.RowKit

set_option maxRecDepth 100000 in
set_option maxHeartbeats 16000000 in
theorem known_r30 (ops : Array Oper) (hops : (Try.f3.body.bind (regOf 30)) = some ops) {w0 : World} {X : Ro} {bx : Nat} {px0 px1 px2 px3 px4 px5 : Option Addr} {kx0 kx1 kx2 kx3 kx4 kx5 : Nat} {Q : Exit → Act → World → Prop} {x0 x1 x2 x3 x4 x5 x6 x7 x8 x9 x10 x11 x12 x13 x14 x15 x16 x17 x18 x19 x20 x21 x22 x23 x24 x25 x26 x27 x29 x30 x31 x32 x33 x34 x35 x36 x37 x38 x39 x40 x41 x42 x43 x44 x45 x46 x47 x48 x49 x50 x51 x52 x53 x54 x55 x56 x57 x58 x59 x60 x61 x62 x63 x64 x65 x66 x67 x68 x69 x70 x71 x72 x73 x74 x75 x76 x77 x78 x79 x80 x81 x82 x83 x84 x85 x86 x87 x88 x89 x90 x91 x92 x93 x94 x95 x96 x97 x98 x99 x100 x101 x102 x103 x104 x105 x106 x107 x108 x109 x110 x111 x112 x113 x114 x115 x116 x117 x118 x119 x120 x121 x122 x123 x124 x125 x126 x127 x128 x129 x130 x131 x132 x133 x134 x135 x136 x137 x138 x139 x140 x141 x142 x143 x144 x145 x146 x147 x148 x149 x150 x151 x152 x153 x154 x155 x156 x157 x158 x159 x160 x161 x162 x163 x164 x165 x166 x167 x168 x169 x170 x171 x172 x173 x174 x175 x176 x177 x178 x179 x180 x181 x182 x183 x184 x185 x186 x187 x188 x189 x190 x191 x192 x193 x194 x195 x196 x197 x198 x199 x200 x201 x202 x203 x204 x205 x206 x207 x208 x209 x210 x211 x212 x213 x214 x215 x216 x217 x218 x219 x220 x221 x222 x223 x224 x225 x226 x227 x228 x229 x230 x231 x232 x233 x234 x235 x236 x237 x238 x239 x240 x241 x242 x243 x244 x245 x246 x247 x248 x249 x250 x251 x252 x253 x254 x255 x256 x257 x258 x259 x260 x261 x262 x263 x264 x265 x266 x267 x268 x269 x270 x271 x272 x273 x274 x275 x276 x277 x278 x279 x280 x281 x282 x283 x284 x285 x286 x287 x288 x289 x290 x291 x292 x293 x294 x295 x296 x297 x298 x299 x300 x301 x302 x303 x304 x305 x306 x307 x308 x309 x310 x311 x312 x313 x314 x315 x316 x317 x318 x319 x320 x321 x322 x323 x324 x325 : Value}
    (BX : Hid (Box w0 bx #[.slice px0 X.hosts.length kx0, .slice px1 X.waves.length kx1, .bool X.rate.neg, .slice px2 X.rate.num.length kx2, .slice px3 X.rate.den.length kx3, .bool X.bound.neg, .slice px4 X.bound.num.length kx4, .slice px5 X.bound.den.length kx5] 28)) (HRX : Hid (IsR w0 (.agg #[.slice px0 X.hosts.length kx0, .slice px1 X.waves.length kx1, .bool X.rate.neg, .slice px2 X.rate.num.length kx2, .slice px3 X.rate.den.length kx3, .bool X.bound.neg, .slice px4 X.bound.num.length kx4, .slice px5 X.bound.den.length kx5]) X)) (HCH : Hid (chanceF X (fr false 0 1) = (fr false 1 1, 0)))
    (hQ : ∀ (w10 : World) (bv : Nat) (y251 y252 y253 y254 y255 y256 : Value), w0.heap.size ≤ bv → VarF w10 bv (fr false 1 1) → Below w0.heap.size w0 w10 → Q .normal ⟨[x0, x1, x2, x3, x4, x5, x6, x7, x8, x9, x10, x11, x12, x13, x14, x15, x16, x17, x18, x19, x20, .int .i64 0, x22, x23, x24, x25, x26, x27, .pointer (some ⟨bx, 0, none⟩), x29, .pointer (some ⟨bv, 0, none⟩), x31, x32, x33, x34, x35, x36, x37, x38, x39, x40, x41, x42, x43, x44, x45, x46, x47, x48, x49, x50, x51, x52, x53, x54, x55, x56, x57, x58, x59, x60, x61, x62, x63, x64, x65, x66, x67, x68, x69, x70, x71, x72, x73, x74, x75, x76, x77, x78, x79, x80, x81, x82, x83, x84, x85, x86, x87, x88, x89, x90, x91, x92, x93, x94, x95, x96, x97, x98, x99, x100, x101, x102, x103, x104, x105, x106, x107, x108, x109, x110, x111, x112, x113, x114, x115, x116, x117, x118, x119, x120, x121, x122, x123, x124, x125, x126, x127, x128, x129, x130, x131, x132, x133, x134, x135, x136, x137, x138, x139, x140, x141, x142, x143, x144, x145, x146, x147, x148, x149, x150, x151, x152, x153, x154, x155, x156, x157, x158, x159, x160, x161, x162, x163, x164, x165, x166, x167, x168, x169, x170, x171, x172, x173, x174, x175, x176, x177, x178, x179, x180, x181, x182, x183, x184, x185, x186, x187, x188, x189, x190, x191, x192, x193, x194, x195, x196, x197, x198, x199, x200, x201, x202, x203, x204, x205, x206, x207, x208, x209, x210, x211, x212, x213, x214, x215, x216, x217, x218, x219, x220, x221, x222, x223, x224, x225, x226, x227, x228, x229, x230, x231, x232, x233, x234, x235, x236, x237, x238, x239, x240, x241, x242, x243, x244, x245, x246, x247, x248, x249, x250, y251, y252, y253, y254, y255, y256, x257, x258, x259, x260, x261, x262, x263, x264, x265, x266, x267, x268, x269, x270, x271, x272, x273, x274, x275, x276, x277, x278, x279, x280, x281, x282, x283, x284, x285, x286, x287, x288, x289, x290, x291, x292, x293, x294, x295, x296, x297, x298, x299, x300, x301, x302, x303, x304, x305, x306, x307, x308, x309, x310, x311, x312, x313, x314, x315, x316, x317, x318, x319, x320, x321, x322, x323, x324, x325].toArray, []⟩ w10) :
    (Code.region 30 ops true).wp Try.prog Q ⟨[x0, x1, x2, x3, x4, x5, x6, x7, x8, x9, x10, x11, x12, x13, x14, x15, x16, x17, x18, x19, x20, x21, x22, x23, x24, x25, x26, x27, .pointer (some ⟨bx, 0, none⟩), x29, x30, x31, x32, x33, x34, x35, x36, x37, x38, x39, x40, x41, x42, x43, x44, x45, x46, x47, x48, x49, x50, x51, x52, x53, x54, x55, x56, x57, x58, x59, x60, x61, x62, x63, x64, x65, x66, x67, x68, x69, x70, x71, x72, x73, x74, x75, x76, x77, x78, x79, x80, x81, x82, x83, x84, x85, x86, x87, x88, x89, x90, x91, x92, x93, x94, x95, x96, x97, x98, x99, x100, x101, x102, x103, x104, x105, x106, x107, x108, x109, x110, x111, x112, x113, x114, x115, x116, x117, x118, x119, x120, x121, x122, x123, x124, x125, x126, x127, x128, x129, x130, x131, x132, x133, x134, x135, x136, x137, x138, x139, x140, x141, x142, x143, x144, x145, x146, x147, x148, x149, x150, x151, x152, x153, x154, x155, x156, x157, x158, x159, x160, x161, x162, x163, x164, x165, x166, x167, x168, x169, x170, x171, x172, x173, x174, x175, x176, x177, x178, x179, x180, x181, x182, x183, x184, x185, x186, x187, x188, x189, x190, x191, x192, x193, x194, x195, x196, x197, x198, x199, x200, x201, x202, x203, x204, x205, x206, x207, x208, x209, x210, x211, x212, x213, x214, x215, x216, x217, x218, x219, x220, x221, x222, x223, x224, x225, x226, x227, x228, x229, x230, x231, x232, x233, x234, x235, x236, x237, x238, x239, x240, x241, x242, x243, x244, x245, x246, x247, x248, x249, x250, x251, x252, x253, x254, x255, x256, x257, x258, x259, x260, x261, x262, x263, x264, x265, x266, x267, x268, x269, x270, x271, x272, x273, x274, x275, x276, x277, x278, x279, x280, x281, x282, x283, x284, x285, x286, x287, x288, x289, x290, x291, x292, x293, x294, x295, x296, x297, x298, x299, x300, x301, x302, x303, x304, x305, x306, x307, x308, x309, x310, x311, x312, x313, x314, x315, x316, x317, x318, x319, x320, x321, x322, x323, x324, x325].toArray, []⟩ w0 := by
  simp only [Try.f3, Option.bind_some, regOf] at hops
  replace hops := Option.some.inj hops
  subst hops
  replace hQ := Lib.hid hQ
  refine wp_region_gj (J := GJ _ (SS 7 (fun κ => match κ with | 0 => (.eq (.agg #[.slice px0 X.hosts.length kx0, .slice px1 X.waves.length kx1, .bool X.rate.neg, .slice px2 X.rate.num.length kx2, .slice px3 X.rate.den.length kx3, .bool X.bound.neg, .slice px4 X.bound.num.length kx4, .slice px5 X.bound.den.length kx5])) | 1 => (kF (fr false 0 1)) | 2 => (kU (fr false 1 1) (0)) | 3 => (kU (fr false 1 1) (0)) | 4 => (kF (fr false 1 1)) | 5 => (.eq (.int .i64 0)) | 6 => .any | 8 => (.eq (.int .i64 0)) | _ => .any)) (CA w0 6 7 30 (fun w b => Box w b #[.bool false, .slice none 0 0, .slice none 0 0] 26) (fun w b => VarF w b (fr false 1 1))) _) (by kernel_rfl) ?_ ?_ (GJ.start CA.start)
  · intro listed a w9 i hr hj
    obtain ⟨hi12, hun, _, _, _⟩ := ready_mem hr
    have h12 : i ∈ List.range 9 := List.mem_range.2 hi12
    simp only [List.range, List.range.loop, List.mem_cons, List.not_mem_nil, or_false] at h12
    obtain ⟨f, ha, hcm, hf, hdo, hdi⟩ := hj.open2 [252, 253, 254, 251, 255, 256, 30, 21] (by kernel_rfl) (by kernel_rfl)
    simp only [List.foldl_cons, List.foldl_nil, List.setIfInBounds_toArray, List.set_cons_zero, List.set_cons_succ] at ha
    subst ha
    replace hcm : CA w0 6 7 30 (fun w b => Box w b #[.bool false, .slice none 0 0, .slice none 0 0] 26) (fun w b => VarF w b (fr false 1 1)) listed f w9 := hcm
    have hlsz : listed.size = 9 := hj.lsize
    rcases h12 with rfl | rfl | rfl | rfl | rfl | rfl | rfl | rfl | rfl
    · have nS : ¬ up listed 7 := fun h => not_up hun (hj.closed 7 0 h (by kernel_rfl))
      have HCM := Lib.hid hcm; clear hcm
      have hcs := ((BX.out.after HCM.out.below).cells8)
      obtain ⟨d0, d1, d2, d3, d4, d5, d6, d7⟩ := hcs
      have dl := (BX.out.after HCM.out.below).lt
      refine GJ.op hj hdo hr rfl _ hdi (fun K hK => ?_)
      simp only [Act.put, List.setIfInBounds_toArray] at hK ⊢; clear hj hf hdo hdi
      go_simp
      exact hK _ _ (fun k v _ _ h => h.keep (Below.refl _ _)) (fun t ht => SS.of (.eq (.agg #[.slice px0 X.hosts.length kx0, .slice px1 X.waves.length kx1, .bool X.rate.neg, .slice px2 X.rate.num.length kx2, .slice px3 X.rate.den.length kx3, .bool X.bound.neg, .slice px4 X.bound.num.length kx4, .slice px5 X.bound.den.length kx5])) rfl rfl) (HCM.out.keep (by decide) (by decide) (by rfl) (stayBox _ _) (stayVar _) (Below.refl _ _))
    · have nS : ¬ up listed 7 := fun h => not_up hun (hj.closed 7 1 h (by kernel_rfl))
      have HCM := Lib.hid hcm; clear hcm
      refine GJ.op hj hdo hr rfl _ hdi (fun K hK => ?_)
      simp only [Act.put, List.setIfInBounds_toArray] at hK ⊢; clear hj hf hdo hdi
      go_simp
      refine (of32_c _ 0 1 (by omega) (by omega) (by omega) (by omega)).mono ?_
      rw [of_01]
      rintro e w11 ⟨v11, rfl, hv, hb⟩
      exact hK _ _ (fun k v _ _ h => h.keep (hb)) (fun t ht => SS.of (kF (fr false 0 1)) rfl (fun _ => hv)) (HCM.out.keep (by decide) (by decide) (by rfl) (stayBox _ _) (stayVar _) (hb))
    · have nS : ¬ up listed 7 := fun h => not_up hun (hj.closed 7 2 h (by kernel_rfl))
      have e1 : f 252 = .agg #[.slice px0 X.hosts.length kx0, .slice px1 X.waves.length kx1, .bool X.rate.neg, .slice px2 X.rate.num.length kx2, .slice px3 X.rate.den.length kx3, .bool X.bound.neg, .slice px4 X.bound.num.length kx4, .slice px5 X.bound.den.length kx5] := hf 0 _ _ rfl rfl (up_dep hr (by kernel_rfl))
      have s2 : IsF w9 (f 253) (fr false 0 1) := (hf 1 _ _ rfl rfl (up_dep hr (by kernel_rfl))) nS
      have HCM := Lib.hid hcm; clear hcm
      refine GJ.op hj hdo hr rfl _ hdi (fun K hK => ?_)
      simp only [Act.put, List.setIfInBounds_toArray] at hK ⊢; clear hj hf hdo hdi
      rw [e1] at hK ⊢; clear e1
      go_simp
      refine (Chance_c _ _ _ X _ (HRX.out.after HCM.out.below) s2).mono ?_
      rw [HCH.out]
      rintro e w11 ⟨v11, rfl, hv, hb⟩
      have hv : IsF w11 v11 (fr false 1 1) := hv
      exact hK _ _ (fun k v _ _ h => h.keep (hb)) (fun t ht => SS.of (kU (fr false 1 1) (0)) rfl ⟨⟨_, rfl⟩, fun _ => ⟨_, rfl, hv⟩⟩) (HCM.out.keep (by decide) (by decide) (by rfl) (stayBox _ _) (stayVar _) (hb))
    · have nS : ¬ up listed 7 := fun h => not_up hun (hj.closed 7 3 h (by kernel_rfl))
      have s1 : ∃ u, f 254 = .tuple #[u, .int .i64 0] ∧ IsF w9 u (fr false 1 1) := (hf 2 _ _ rfl rfl (up_dep hr (by kernel_rfl))).2 nS
      have HCM := Lib.hid hcm; clear hcm
      obtain ⟨uu, zz, hu⟩ := s1
      refine GJ.op hj hdo hr rfl _ hdi (fun K hK => ?_)
      simp only [Act.put, List.setIfInBounds_toArray] at hK ⊢; clear hj hf hdo hdi
      rw [zz] at hK ⊢
      go_simp
      exact hK _ _ (fun k v _ _ h => h.keep (Below.refl _ _)) (fun t ht => SS.of (kU (fr false 1 1) (0)) rfl ⟨⟨_, rfl⟩, fun _ => ⟨_, rfl, hu⟩⟩) (HCM.out.keep (by decide) (by decide) (by rfl) (stayBox _ _) (stayVar _) (Below.refl _ _))
    · have nS : ¬ up listed 7 := fun h => not_up hun (hj.closed 7 4 h (by kernel_rfl))
      have s1 : ∃ u, f 251 = .tuple #[u, .int .i64 0] ∧ IsF w9 u (fr false 1 1) := (hf 3 _ _ rfl rfl (up_dep hr (by kernel_rfl))).2 nS
      have HCM := Lib.hid hcm; clear hcm
      obtain ⟨uu, zz, hu⟩ := s1
      refine GJ.op hj hdo hr rfl _ hdi (fun K hK => ?_)
      simp only [Act.put, List.setIfInBounds_toArray] at hK ⊢; clear hj hf hdo hdi
      rw [zz] at hK ⊢
      go_simp
      exact hK _ _ (fun k v _ _ h => h.keep (Below.refl _ _)) (fun t ht => SS.of (kF (fr false 1 1)) rfl (fun _ => hu)) (HCM.out.keep (by decide) (by decide) (by rfl) (stayBox _ _) (stayVar _) (Below.refl _ _))
    · have s1 : ∃ u, f 251 = .tuple #[u, .int .i64 (0)] := (hf 3 _ _ rfl rfl (up_dep hr (by kernel_rfl))).1
      have HCM := Lib.hid hcm; clear hcm
      obtain ⟨uu, zz⟩ := s1
      refine GJ.op hj hdo hr rfl _ hdi (fun K hK => ?_)
      simp only [Act.put, List.setIfInBounds_toArray] at hK ⊢; clear hj hf hdo hdi
      rw [zz] at hK ⊢
      go_simp
      exact hK _ _ (fun k v _ _ h => h.keep (Below.refl _ _)) (fun t ht => SS.of (.eq (.int .i64 0)) rfl rfl) (HCM.out.keep (by decide) (by decide) (by rfl) (stayBox _ _) (stayVar _) (Below.refl _ _))
    · have nS : ¬ up listed 7 := fun h => not_up hun (hj.closed 7 6 h (by kernel_rfl))
      have HCM := Lib.hid hcm; clear hcm
      refine GJ.op hj hdo hr rfl _ hdi (fun K hK => ?_)
      simp only [Act.put, List.setIfInBounds_toArray] at hK ⊢; clear hj hf hdo hdi
      go_simp
      exact hK _ _ (fun k v _ _ h => h.keep (held_alloc (Below.refl _ _))) (fun t ht => SS.of .any rfl trivial) (HCM.out.alloc (by decide) nS (held_alloc (Below.refl _ _)) (by rfl) HCM.out.below.size (Box.new _ _ _))
    · have nS : ¬ up listed 7 := not_up hun
      have s1 : IsF w9 (f 255) (fr false 1 1) := (hf 4 _ _ rfl rfl (up_dep hr (by kernel_rfl))) nS
      have HCM := Lib.hid hcm; clear hcm
      obtain ⟨bv, ev, hBv, hzv, _⟩ := HCM.out.var (up_dep hr (by kernel_rfl))
      have hbx := hzv nS
      obtain ⟨va, vb, zz, h1, h2⟩ := s1
      obtain ⟨pp, cc, rfl, _, _⟩ := h1.shape
      obtain ⟨qq, dd, rfl, _, _⟩ := h2.shape
      refine GJ.op hj hdo hr rfl _ hdi (fun K hK => ?_)
      simp only [Act.put] at hK ⊢; clear hj hf hdo hdi
      rw [zz] at hK ⊢
      rw [ev] at hK ⊢
      have kx0 := hbx.cell 0
      have kx1 := hbx.cell 1
      have kx2 := hbx.cell 2
      have fx0 := hbx.frozen 0
      have fx1 := hbx.frozen 1
      have fx2 := hbx.frozen 2
      have yl := hbx.lt
      have HBX := Lib.hid hbx
      clear hbx hzv
      go_simp
      exact hK undef _ (fun k v _ _ h => h.put (up_self (by rw [hlsz]; decide))) (fun t ht => by cases ht) (CA.put (by rw [hlsz]; decide) (((HCM.out.below.setCell hBv _).setCell hBv _).setCell hBv _) (by rfl) hBv (frac_store HBX.out h1 h2))
    · have e1 : f 256 = .int .i64 0 := hf 5 _ _ rfl rfl (up_dep hr (by kernel_rfl))
      have HCM := Lib.hid hcm; clear hcm
      refine GJ.op hj hdo hr rfl _ hdi (fun K hK => ?_)
      simp only [Act.put, List.setIfInBounds_toArray] at hK ⊢; clear hj hf hdo hdi
      rw [e1] at hK ⊢; clear e1
      go_simp
      exact hK _ _ (fun k v _ _ h => h.keep (Below.refl _ _)) (fun t ht => SS.of (.eq (.int .i64 0)) rfl rfl) (HCM.out.keep (by decide) (by decide) (by rfl) (stayBox _ _) (stayVar _) (Below.refl _ _))
  · intro listed a w10 hr hj
    have hu : ∀ k, k < 9 → up listed k := fun k hk => all_up (by kernel_rfl) hj.lsize hr k hk
    have hlsz : listed.size = 9 := hj.lsize
    obtain ⟨f, ha, hcm, hf, hdo, hdi⟩ := hj.open2 [252, 253, 254, 251, 255, 256, 30, 21] (by kernel_rfl) (by kernel_rfl)
    simp only [List.foldl_cons, List.foldl_nil, List.setIfInBounds_toArray, List.set_cons_zero, List.set_cons_succ] at ha
    subst ha
    replace hcm : CA w0 6 7 30 (fun w b => Box w b #[.bool false, .slice none 0 0, .slice none 0 0] 26) (fun w b => VarF w b (fr false 1 1)) listed f w10 := hcm
    have E8 : f 21 = .int .i64 0 := hf 8 _ _ rfl rfl (hu 8 (by omega))
    obtain ⟨bv, EV, hBV, _, hNV⟩ := hcm.var (hu 6 (by omega))
    have VY := hNV (hu 7 (by omega))
    have HBR := hcm.below
    clear hf hj hr hu hcm hlsz hdo hdi hNV
    rw [E8]
    clear E8
    rw [EV]
    clear EV
    generalize f 251 = g251
    generalize f 252 = g252
    generalize f 253 = g253
    generalize f 254 = g254
    generalize f 255 = g255
    generalize f 256 = g256
    exact hQ.out _ _ _ _ _ _ _ _ hBV VY HBR
set_option maxRecDepth 100000 in
set_option maxHeartbeats 16000000 in
theorem known_r31 (ops : Array Oper) (hops : (Try.f3.body.bind (regOf 31)) = some ops) {w0 : World} {q : F} {A6 : Nat} {q1 q2 : Option Addr} {j1 j2 : Nat} {Q : Exit → Act → World → Prop} {x0 x1 x2 x3 x4 x5 x7 x8 x9 x10 x11 x12 x13 x14 x15 x16 x17 x18 x19 x20 x21 x22 x23 x24 x25 x26 x27 x28 x29 x30 x31 x32 x33 x34 x35 x36 x37 x38 x39 x40 x41 x42 x43 x44 x45 x46 x47 x48 x49 x50 x51 x52 x53 x54 x55 x56 x57 x58 x59 x60 x61 x62 x63 x64 x65 x66 x67 x68 x69 x70 x71 x72 x73 x74 x75 x76 x77 x78 x79 x80 x81 x82 x83 x84 x85 x86 x87 x88 x89 x90 x91 x92 x93 x94 x95 x96 x97 x98 x99 x100 x101 x102 x103 x104 x105 x106 x107 x108 x109 x110 x111 x112 x113 x114 x115 x116 x117 x118 x119 x120 x121 x122 x123 x124 x125 x126 x127 x128 x129 x130 x131 x132 x133 x134 x135 x136 x137 x138 x139 x140 x141 x142 x143 x144 x145 x146 x147 x148 x149 x150 x151 x152 x153 x154 x155 x156 x157 x158 x159 x160 x161 x162 x163 x164 x165 x166 x167 x168 x169 x170 x171 x172 x173 x174 x175 x176 x177 x178 x179 x180 x181 x182 x183 x184 x185 x186 x187 x188 x189 x190 x191 x192 x193 x194 x195 x196 x197 x198 x199 x200 x201 x202 x203 x204 x205 x206 x207 x208 x209 x210 x211 x212 x213 x214 x215 x216 x217 x218 x219 x220 x221 x222 x223 x224 x225 x226 x227 x228 x229 x230 x231 x232 x233 x234 x235 x236 x237 x238 x239 x240 x241 x242 x243 x244 x245 x246 x247 x248 x249 x250 x251 x252 x253 x254 x255 x256 x257 x258 x259 x260 x261 x262 x263 x264 x265 x266 x267 x268 x269 x270 x271 x272 x273 x274 x275 x276 x277 x278 x279 x280 x281 x282 x283 x284 x285 x286 x287 x288 x289 x290 x291 x292 x293 x294 x295 x296 x297 x298 x299 x300 x301 x302 x303 x304 x305 x306 x307 x308 x309 x310 x311 x312 x313 x314 x315 x316 x317 x318 x319 x320 x321 x322 x323 x324 x325 : Value}
    (BQ : Hid (Box w0 A6 #[.bool q.neg, .slice q1 q.num.length j1, .slice q2 q.den.length j2] 26)) (FQ : Hid (IsF w0 (.agg #[.bool q.neg, .slice q1 q.num.length j1, .slice q2 q.den.length j2]) q))
    (hQ : ∀ (w10 : World) (bv : Nat) (y257 y258 y259 y260 y261 : Value), w0.heap.size ≤ bv → VarRo w10 bv ⟨[3, 9], [1, 1], q, fr false 0 1⟩ → Below w0.heap.size w0 w10 → Q .normal ⟨[x0, x1, x2, x3, x4, x5, .pointer (some ⟨A6, 0, none⟩), x7, x8, x9, x10, x11, x12, x13, x14, x15, x16, x17, x18, x19, x20, x21, x22, x23, x24, x25, x26, x27, x28, x29, x30, .pointer (some ⟨bv, 0, none⟩), x32, x33, x34, x35, x36, x37, x38, x39, x40, x41, x42, x43, x44, x45, x46, x47, x48, x49, x50, x51, x52, x53, x54, x55, x56, x57, x58, x59, x60, x61, x62, x63, x64, x65, x66, x67, x68, x69, x70, x71, x72, x73, x74, x75, x76, x77, x78, x79, x80, x81, x82, x83, x84, x85, x86, x87, x88, x89, x90, x91, x92, x93, x94, x95, x96, x97, x98, x99, x100, x101, x102, x103, x104, x105, x106, x107, x108, x109, x110, x111, x112, x113, x114, x115, x116, x117, x118, x119, x120, x121, x122, x123, x124, x125, x126, x127, x128, x129, x130, x131, x132, x133, x134, x135, x136, x137, x138, x139, x140, x141, x142, x143, x144, x145, x146, x147, x148, x149, x150, x151, x152, x153, x154, x155, x156, x157, x158, x159, x160, x161, x162, x163, x164, x165, x166, x167, x168, x169, x170, x171, x172, x173, x174, x175, x176, x177, x178, x179, x180, x181, x182, x183, x184, x185, x186, x187, x188, x189, x190, x191, x192, x193, x194, x195, x196, x197, x198, x199, x200, x201, x202, x203, x204, x205, x206, x207, x208, x209, x210, x211, x212, x213, x214, x215, x216, x217, x218, x219, x220, x221, x222, x223, x224, x225, x226, x227, x228, x229, x230, x231, x232, x233, x234, x235, x236, x237, x238, x239, x240, x241, x242, x243, x244, x245, x246, x247, x248, x249, x250, x251, x252, x253, x254, x255, x256, y257, y258, y259, y260, y261, x262, x263, x264, x265, x266, x267, x268, x269, x270, x271, x272, x273, x274, x275, x276, x277, x278, x279, x280, x281, x282, x283, x284, x285, x286, x287, x288, x289, x290, x291, x292, x293, x294, x295, x296, x297, x298, x299, x300, x301, x302, x303, x304, x305, x306, x307, x308, x309, x310, x311, x312, x313, x314, x315, x316, x317, x318, x319, x320, x321, x322, x323, x324, x325].toArray, []⟩ w10) :
    (Code.region 31 ops true).wp Try.prog Q ⟨[x0, x1, x2, x3, x4, x5, .pointer (some ⟨A6, 0, none⟩), x7, x8, x9, x10, x11, x12, x13, x14, x15, x16, x17, x18, x19, x20, x21, x22, x23, x24, x25, x26, x27, x28, x29, x30, x31, x32, x33, x34, x35, x36, x37, x38, x39, x40, x41, x42, x43, x44, x45, x46, x47, x48, x49, x50, x51, x52, x53, x54, x55, x56, x57, x58, x59, x60, x61, x62, x63, x64, x65, x66, x67, x68, x69, x70, x71, x72, x73, x74, x75, x76, x77, x78, x79, x80, x81, x82, x83, x84, x85, x86, x87, x88, x89, x90, x91, x92, x93, x94, x95, x96, x97, x98, x99, x100, x101, x102, x103, x104, x105, x106, x107, x108, x109, x110, x111, x112, x113, x114, x115, x116, x117, x118, x119, x120, x121, x122, x123, x124, x125, x126, x127, x128, x129, x130, x131, x132, x133, x134, x135, x136, x137, x138, x139, x140, x141, x142, x143, x144, x145, x146, x147, x148, x149, x150, x151, x152, x153, x154, x155, x156, x157, x158, x159, x160, x161, x162, x163, x164, x165, x166, x167, x168, x169, x170, x171, x172, x173, x174, x175, x176, x177, x178, x179, x180, x181, x182, x183, x184, x185, x186, x187, x188, x189, x190, x191, x192, x193, x194, x195, x196, x197, x198, x199, x200, x201, x202, x203, x204, x205, x206, x207, x208, x209, x210, x211, x212, x213, x214, x215, x216, x217, x218, x219, x220, x221, x222, x223, x224, x225, x226, x227, x228, x229, x230, x231, x232, x233, x234, x235, x236, x237, x238, x239, x240, x241, x242, x243, x244, x245, x246, x247, x248, x249, x250, x251, x252, x253, x254, x255, x256, x257, x258, x259, x260, x261, x262, x263, x264, x265, x266, x267, x268, x269, x270, x271, x272, x273, x274, x275, x276, x277, x278, x279, x280, x281, x282, x283, x284, x285, x286, x287, x288, x289, x290, x291, x292, x293, x294, x295, x296, x297, x298, x299, x300, x301, x302, x303, x304, x305, x306, x307, x308, x309, x310, x311, x312, x313, x314, x315, x316, x317, x318, x319, x320, x321, x322, x323, x324, x325].toArray, []⟩ w0 := by
  simp only [Try.f3, Option.bind_some, regOf] at hops
  replace hops := Option.some.inj hops
  subst hops
  replace hQ := Lib.hid hQ
  refine wp_region_gj (J := GJ _ (SS 6 (fun κ => match κ with | 0 => (kI ([3, 9])) | 1 => (kI ([1, 1])) | 2 => (.eq (.agg #[.bool q.neg, .slice q1 q.num.length j1, .slice q2 q.den.length j2])) | 3 => (kF (fr false 0 1)) | 4 => (kR (⟨[3, 9], [1, 1], q, fr false 0 1⟩)) | 5 => .any | _ => .any)) (CA w0 5 6 31 (fun w b => Box w b #[.slice none 0 0, .slice none 0 0, .bool false, .slice none 0 0, .slice none 0 0, .bool false, .slice none 0 0, .slice none 0 0] 28) (fun w b => VarRo w b (⟨[3, 9], [1, 1], q, fr false 0 1⟩))) _) (by kernel_rfl) ?_ ?_ (GJ.start CA.start)
  · intro listed a w9 i hr hj
    obtain ⟨hi12, hun, _, _, _⟩ := ready_mem hr
    have h12 : i ∈ List.range 7 := List.mem_range.2 hi12
    simp only [List.range, List.range.loop, List.mem_cons, List.not_mem_nil, or_false] at h12
    obtain ⟨f, ha, hcm, hf, hdo, hdi⟩ := hj.open2 [257, 258, 259, 260, 261, 31] (by kernel_rfl) (by kernel_rfl)
    simp only [List.foldl_cons, List.foldl_nil, List.setIfInBounds_toArray, List.set_cons_zero, List.set_cons_succ] at ha
    subst ha
    replace hcm : CA w0 5 6 31 (fun w b => Box w b #[.slice none 0 0, .slice none 0 0, .bool false, .slice none 0 0, .slice none 0 0, .bool false, .slice none 0 0, .slice none 0 0] 28) (fun w b => VarRo w b (⟨[3, 9], [1, 1], q, fr false 0 1⟩)) listed f w9 := hcm
    have hlsz : listed.size = 7 := hj.lsize
    rcases h12 with rfl | rfl | rfl | rfl | rfl | rfl | rfl
    · have nS : ¬ up listed 6 := fun h => not_up hun (hj.closed 6 0 h (by kernel_rfl))
      have HCM := Lib.hid hcm; clear hcm
      refine GJ.op hj hdo hr rfl _ hdi (fun K hK => ?_)
      simp only [Act.put, List.setIfInBounds_toArray] at hK ⊢; clear hj hf hdo hdi
      go_simp
      exact hK _ _ (fun k v _ _ h => h.keep (held_alloc (Below.refl _ _))) (fun t ht => SS.of (kI ([3, 9])) rfl (fun _ => SlI.lit (l := [3, 9]) (Box.new _ _ _) rfl (in_lit _ (by decide)) (by decide))) (HCM.out.keep (by decide) (by decide) (by rfl) (stayBox _ _) (stayRo _) (held_alloc (Below.refl _ _)))
    · have nS : ¬ up listed 6 := fun h => not_up hun (hj.closed 6 1 h (by kernel_rfl))
      have HCM := Lib.hid hcm; clear hcm
      refine GJ.op hj hdo hr rfl _ hdi (fun K hK => ?_)
      simp only [Act.put, List.setIfInBounds_toArray] at hK ⊢; clear hj hf hdo hdi
      go_simp
      exact hK _ _ (fun k v _ _ h => h.keep (held_alloc (Below.refl _ _))) (fun t ht => SS.of (kI ([1, 1])) rfl (fun _ => SlI.lit (l := [1, 1]) (Box.new _ _ _) rfl (in_lit _ (by decide)) (by decide))) (HCM.out.keep (by decide) (by decide) (by rfl) (stayBox _ _) (stayRo _) (held_alloc (Below.refl _ _)))
    · have nS : ¬ up listed 6 := fun h => not_up hun (hj.closed 6 2 h (by kernel_rfl))
      have HCM := Lib.hid hcm; clear hcm
      have hcs := ((BQ.out.after HCM.out.below).cells3)
      obtain ⟨d0, d1, d2⟩ := hcs
      have dl := (BQ.out.after HCM.out.below).lt
      refine GJ.op hj hdo hr rfl _ hdi (fun K hK => ?_)
      simp only [Act.put, List.setIfInBounds_toArray] at hK ⊢; clear hj hf hdo hdi
      go_simp
      exact hK _ _ (fun k v _ _ h => h.keep (Below.refl _ _)) (fun t ht => SS.of (.eq (.agg #[.bool q.neg, .slice q1 q.num.length j1, .slice q2 q.den.length j2])) rfl rfl) (HCM.out.keep (by decide) (by decide) (by rfl) (stayBox _ _) (stayRo _) (Below.refl _ _))
    · have nS : ¬ up listed 6 := fun h => not_up hun (hj.closed 6 3 h (by kernel_rfl))
      have HCM := Lib.hid hcm; clear hcm
      refine GJ.op hj hdo hr rfl _ hdi (fun K hK => ?_)
      simp only [Act.put, List.setIfInBounds_toArray] at hK ⊢; clear hj hf hdo hdi
      go_simp
      refine (of32_c _ 0 1 (by omega) (by omega) (by omega) (by omega)).mono ?_
      rw [of_01]
      rintro e w11 ⟨v11, rfl, hv, hb⟩
      exact hK _ _ (fun k v _ _ h => h.keep (hb)) (fun t ht => SS.of (kF (fr false 0 1)) rfl (fun _ => hv)) (HCM.out.keep (by decide) (by decide) (by rfl) (stayBox _ _) (stayRo _) (hb))
    · have nS : ¬ up listed 6 := fun h => not_up hun (hj.closed 6 4 h (by kernel_rfl))
      have s1 : SlI w9 (f 257) ([3, 9]) := (hf 0 _ _ rfl rfl (up_dep hr (by kernel_rfl))) nS
      have s2 : SlI w9 (f 258) ([1, 1]) := (hf 1 _ _ rfl rfl (up_dep hr (by kernel_rfl))) nS
      have e3 : f 259 = .agg #[.bool q.neg, .slice q1 q.num.length j1, .slice q2 q.den.length j2] := hf 2 _ _ rfl rfl (up_dep hr (by kernel_rfl))
      have s4 : IsF w9 (f 260) (fr false 0 1) := (hf 3 _ _ rfl rfl (up_dep hr (by kernel_rfl))) nS
      have HCM := Lib.hid hcm; clear hcm
      obtain ⟨ph, ch, z1, _, _, _⟩ := s1.shape
      obtain ⟨pw, cw, z2, _, _, _⟩ := s2.shape
      obtain ⟨vab, vbb, z4, h1b, h2b⟩ := s4
      obtain ⟨ppb, ccb, y1b, _, _⟩ := h1b.shape
      obtain ⟨qqb, ddb, y2b, _, _⟩ := h2b.shape
      subst y1b y2b
      have hq := (FQ.out.after HCM.out.below).parts3
      refine GJ.op hj hdo hr rfl _ hdi (fun K hK => ?_)
      simp only [Act.put, List.setIfInBounds_toArray] at hK ⊢; clear hj hf hdo hdi
      rw [e3] at hK ⊢; clear e3
      rw [z1] at hK s1 ⊢
      rw [z2] at hK s2 ⊢
      rw [z4] at hK ⊢
      go_simp
      exact hK _ _ (fun k v _ _ h => h.keep (Below.refl _ _)) (fun t ht => SS.of (kR (⟨[3, 9], [1, 1], q, fr false 0 1⟩)) rfl (fun _ => IsR.mk s1 s2 hq.2.1 hq.2.2 h1b h2b)) (HCM.out.keep (by decide) (by decide) (by rfl) (stayBox _ _) (stayRo _) (Below.refl _ _))
    · have nS : ¬ up listed 6 := fun h => not_up hun (hj.closed 6 5 h (by kernel_rfl))
      have HCM := Lib.hid hcm; clear hcm
      refine GJ.op hj hdo hr rfl _ hdi (fun K hK => ?_)
      simp only [Act.put, List.setIfInBounds_toArray] at hK ⊢; clear hj hf hdo hdi
      go_simp
      exact hK _ _ (fun k v _ _ h => h.keep (held_alloc (Below.refl _ _))) (fun t ht => SS.of .any rfl trivial) (HCM.out.alloc (by decide) nS (held_alloc (Below.refl _ _)) (by rfl) HCM.out.below.size (Box.new _ _ _))
    · have nS : ¬ up listed 6 := not_up hun
      have s1 : IsR w9 (f 261) (⟨[3, 9], [1, 1], q, fr false 0 1⟩) := (hf 4 _ _ rfl rfl (up_dep hr (by kernel_rfl))) nS
      have HCM := Lib.hid hcm; clear hcm
      obtain ⟨bv, ev, hBv, hzv, _⟩ := HCM.out.var (up_dep hr (by kernel_rfl))
      have hbx := hzv nS
      obtain ⟨a0, a1, a2, a3, a4, a5, e0, e1, e2, e3, e4, e5, zz, _⟩ := s1.open
      refine GJ.op hj hdo hr rfl _ hdi (fun K hK => ?_)
      simp only [Act.put] at hK ⊢; clear hj hf hdo hdi
      rw [zz] at hK s1 ⊢
      have HS1 := Lib.hid s1
      clear s1
      rw [ev] at hK ⊢
      have kx0 := hbx.cell 0
      have kx1 := hbx.cell 1
      have kx2 := hbx.cell 2
      have kx3 := hbx.cell 3
      have kx4 := hbx.cell 4
      have kx5 := hbx.cell 5
      have kx6 := hbx.cell 6
      have kx7 := hbx.cell 7
      have fx0 := hbx.frozen 0
      have fx1 := hbx.frozen 1
      have fx2 := hbx.frozen 2
      have fx3 := hbx.frozen 3
      have fx4 := hbx.frozen 4
      have fx5 := hbx.frozen 5
      have fx6 := hbx.frozen 6
      have fx7 := hbx.frozen 7
      have yl := hbx.lt
      have HBX := Lib.hid hbx
      clear hbx hzv
      go_simp
      exact hK undef _ (fun k v _ _ h => h.put (up_self (by rw [hlsz]; decide))) (fun t ht => by cases ht) (CA.put (by rw [hlsz]; decide) ((((((((HCM.out.below.setCell hBv _).setCell hBv _).setCell hBv _).setCell hBv _).setCell hBv _).setCell hBv _).setCell hBv _).setCell hBv _) (by rfl) hBv ⟨a0, a1, a2, a3, a4, a5, e0, e1, e2, e3, e4, e5, (ro_store HBX.out HS1.out).1, (ro_store HBX.out HS1.out).2⟩)
  · intro listed a w10 hr hj
    have hu : ∀ k, k < 7 → up listed k := fun k hk => all_up (by kernel_rfl) hj.lsize hr k hk
    have hlsz : listed.size = 7 := hj.lsize
    obtain ⟨f, ha, hcm, hf, hdo, hdi⟩ := hj.open2 [257, 258, 259, 260, 261, 31] (by kernel_rfl) (by kernel_rfl)
    simp only [List.foldl_cons, List.foldl_nil, List.setIfInBounds_toArray, List.set_cons_zero, List.set_cons_succ] at ha
    subst ha
    replace hcm : CA w0 5 6 31 (fun w b => Box w b #[.slice none 0 0, .slice none 0 0, .bool false, .slice none 0 0, .slice none 0 0, .bool false, .slice none 0 0, .slice none 0 0] 28) (fun w b => VarRo w b (⟨[3, 9], [1, 1], q, fr false 0 1⟩)) listed f w10 := hcm
    obtain ⟨bv, EV, hBV, _, hNV⟩ := hcm.var (hu 5 (by omega))
    have VN := hNV (hu 6 (by omega))
    have HBR := hcm.below
    clear hf hj hr hu hcm hlsz hdo hdi hNV
    rw [EV]
    clear EV
    generalize f 257 = g257
    generalize f 258 = g258
    generalize f 259 = g259
    generalize f 260 = g260
    generalize f 261 = g261
    exact hQ.out _ _ _ _ _ _ _ hBV VN HBR
set_option maxRecDepth 100000 in
set_option maxHeartbeats 16000000 in
theorem known_r33 (ops : Array Oper) (hops : (Try.f3.body.bind (regOf 33)) = some ops) {w0 : World} {X : Ro} {bx : Nat} {px0 px1 px2 px3 px4 px5 : Option Addr} {kx0 kx1 kx2 kx3 kx4 kx5 : Nat} {Q : Exit → Act → World → Prop} {x0 x1 x2 x3 x4 x5 x6 x7 x8 x9 x10 x11 x12 x13 x14 x15 x16 x17 x18 x19 x20 x21 x22 x23 x24 x25 x26 x27 x28 x29 x30 x32 x33 x34 x35 x36 x37 x38 x39 x40 x41 x42 x43 x44 x45 x46 x47 x48 x49 x50 x51 x52 x53 x54 x55 x56 x57 x58 x59 x60 x61 x62 x63 x64 x65 x66 x67 x68 x69 x70 x71 x72 x73 x74 x75 x76 x77 x78 x79 x80 x81 x82 x83 x84 x85 x86 x87 x88 x89 x90 x91 x92 x93 x94 x95 x96 x97 x98 x99 x100 x101 x102 x103 x104 x105 x106 x107 x108 x109 x110 x111 x112 x113 x114 x115 x116 x117 x118 x119 x120 x121 x122 x123 x124 x125 x126 x127 x128 x129 x130 x131 x132 x133 x134 x135 x136 x137 x138 x139 x140 x141 x142 x143 x144 x145 x146 x147 x148 x149 x150 x151 x152 x153 x154 x155 x156 x157 x158 x159 x160 x161 x162 x163 x164 x165 x166 x167 x168 x169 x170 x171 x172 x173 x174 x175 x176 x177 x178 x179 x180 x181 x182 x183 x184 x185 x186 x187 x188 x189 x190 x191 x192 x193 x194 x195 x196 x197 x198 x199 x200 x201 x202 x203 x204 x205 x206 x207 x208 x209 x210 x211 x212 x213 x214 x215 x216 x217 x218 x219 x220 x221 x222 x223 x224 x225 x226 x227 x228 x229 x230 x231 x232 x233 x234 x235 x236 x237 x238 x239 x240 x241 x242 x243 x244 x245 x246 x247 x248 x249 x250 x251 x252 x253 x254 x255 x256 x257 x258 x259 x260 x261 x262 x263 x264 x265 x266 x267 x268 x269 x270 x271 x272 x273 x274 x275 x276 x277 x278 x279 x280 x281 x282 x283 x284 x285 x286 x287 x288 x289 x290 x291 x292 x293 x294 x295 x296 x297 x298 x299 x300 x301 x302 x303 x304 x305 x306 x307 x308 x309 x310 x311 x312 x313 x314 x315 x316 x317 x318 x319 x320 x321 x322 x323 x324 x325 : Value}
    (BX : Hid (Box w0 bx #[.slice px0 X.hosts.length kx0, .slice px1 X.waves.length kx1, .bool X.rate.neg, .slice px2 X.rate.num.length kx2, .slice px3 X.rate.den.length kx3, .bool X.bound.neg, .slice px4 X.bound.num.length kx4, .slice px5 X.bound.den.length kx5] 28)) (HRX : Hid (IsR w0 (.agg #[.slice px0 X.hosts.length kx0, .slice px1 X.waves.length kx1, .bool X.rate.neg, .slice px2 X.rate.num.length kx2, .slice px3 X.rate.den.length kx3, .bool X.bound.neg, .slice px4 X.bound.num.length kx4, .slice px5 X.bound.den.length kx5]) X)) (HCH : Hid (chanceF X (fr false 1 1) = (fr false 0 1, 0)))
    (hQ : ∀ (w10 : World) (bv : Nat) (y267 y268 y269 y270 y271 y272 : Value), w0.heap.size ≤ bv → VarF w10 bv (fr false 0 1) → Below w0.heap.size w0 w10 → Q .normal ⟨[x0, x1, x2, x3, x4, x5, x6, x7, x8, x9, x10, x11, x12, x13, x14, x15, x16, x17, x18, x19, x20, x21, x22, x23, x24, .int .i64 0, x26, x27, x28, x29, x30, .pointer (some ⟨bx, 0, none⟩), x32, .pointer (some ⟨bv, 0, none⟩), x34, x35, x36, x37, x38, x39, x40, x41, x42, x43, x44, x45, x46, x47, x48, x49, x50, x51, x52, x53, x54, x55, x56, x57, x58, x59, x60, x61, x62, x63, x64, x65, x66, x67, x68, x69, x70, x71, x72, x73, x74, x75, x76, x77, x78, x79, x80, x81, x82, x83, x84, x85, x86, x87, x88, x89, x90, x91, x92, x93, x94, x95, x96, x97, x98, x99, x100, x101, x102, x103, x104, x105, x106, x107, x108, x109, x110, x111, x112, x113, x114, x115, x116, x117, x118, x119, x120, x121, x122, x123, x124, x125, x126, x127, x128, x129, x130, x131, x132, x133, x134, x135, x136, x137, x138, x139, x140, x141, x142, x143, x144, x145, x146, x147, x148, x149, x150, x151, x152, x153, x154, x155, x156, x157, x158, x159, x160, x161, x162, x163, x164, x165, x166, x167, x168, x169, x170, x171, x172, x173, x174, x175, x176, x177, x178, x179, x180, x181, x182, x183, x184, x185, x186, x187, x188, x189, x190, x191, x192, x193, x194, x195, x196, x197, x198, x199, x200, x201, x202, x203, x204, x205, x206, x207, x208, x209, x210, x211, x212, x213, x214, x215, x216, x217, x218, x219, x220, x221, x222, x223, x224, x225, x226, x227, x228, x229, x230, x231, x232, x233, x234, x235, x236, x237, x238, x239, x240, x241, x242, x243, x244, x245, x246, x247, x248, x249, x250, x251, x252, x253, x254, x255, x256, x257, x258, x259, x260, x261, x262, x263, x264, x265, x266, y267, y268, y269, y270, y271, y272, x273, x274, x275, x276, x277, x278, x279, x280, x281, x282, x283, x284, x285, x286, x287, x288, x289, x290, x291, x292, x293, x294, x295, x296, x297, x298, x299, x300, x301, x302, x303, x304, x305, x306, x307, x308, x309, x310, x311, x312, x313, x314, x315, x316, x317, x318, x319, x320, x321, x322, x323, x324, x325].toArray, []⟩ w10) :
    (Code.region 33 ops true).wp Try.prog Q ⟨[x0, x1, x2, x3, x4, x5, x6, x7, x8, x9, x10, x11, x12, x13, x14, x15, x16, x17, x18, x19, x20, x21, x22, x23, x24, x25, x26, x27, x28, x29, x30, .pointer (some ⟨bx, 0, none⟩), x32, x33, x34, x35, x36, x37, x38, x39, x40, x41, x42, x43, x44, x45, x46, x47, x48, x49, x50, x51, x52, x53, x54, x55, x56, x57, x58, x59, x60, x61, x62, x63, x64, x65, x66, x67, x68, x69, x70, x71, x72, x73, x74, x75, x76, x77, x78, x79, x80, x81, x82, x83, x84, x85, x86, x87, x88, x89, x90, x91, x92, x93, x94, x95, x96, x97, x98, x99, x100, x101, x102, x103, x104, x105, x106, x107, x108, x109, x110, x111, x112, x113, x114, x115, x116, x117, x118, x119, x120, x121, x122, x123, x124, x125, x126, x127, x128, x129, x130, x131, x132, x133, x134, x135, x136, x137, x138, x139, x140, x141, x142, x143, x144, x145, x146, x147, x148, x149, x150, x151, x152, x153, x154, x155, x156, x157, x158, x159, x160, x161, x162, x163, x164, x165, x166, x167, x168, x169, x170, x171, x172, x173, x174, x175, x176, x177, x178, x179, x180, x181, x182, x183, x184, x185, x186, x187, x188, x189, x190, x191, x192, x193, x194, x195, x196, x197, x198, x199, x200, x201, x202, x203, x204, x205, x206, x207, x208, x209, x210, x211, x212, x213, x214, x215, x216, x217, x218, x219, x220, x221, x222, x223, x224, x225, x226, x227, x228, x229, x230, x231, x232, x233, x234, x235, x236, x237, x238, x239, x240, x241, x242, x243, x244, x245, x246, x247, x248, x249, x250, x251, x252, x253, x254, x255, x256, x257, x258, x259, x260, x261, x262, x263, x264, x265, x266, x267, x268, x269, x270, x271, x272, x273, x274, x275, x276, x277, x278, x279, x280, x281, x282, x283, x284, x285, x286, x287, x288, x289, x290, x291, x292, x293, x294, x295, x296, x297, x298, x299, x300, x301, x302, x303, x304, x305, x306, x307, x308, x309, x310, x311, x312, x313, x314, x315, x316, x317, x318, x319, x320, x321, x322, x323, x324, x325].toArray, []⟩ w0 := by
  simp only [Try.f3, Option.bind_some, regOf] at hops
  replace hops := Option.some.inj hops
  subst hops
  replace hQ := Lib.hid hQ
  refine wp_region_gj (J := GJ _ (SS 7 (fun κ => match κ with | 0 => (.eq (.agg #[.slice px0 X.hosts.length kx0, .slice px1 X.waves.length kx1, .bool X.rate.neg, .slice px2 X.rate.num.length kx2, .slice px3 X.rate.den.length kx3, .bool X.bound.neg, .slice px4 X.bound.num.length kx4, .slice px5 X.bound.den.length kx5])) | 1 => (kF (fr false 1 1)) | 2 => (kU (fr false 0 1) (0)) | 3 => (kU (fr false 0 1) (0)) | 4 => (kF (fr false 0 1)) | 5 => (.eq (.int .i64 0)) | 6 => .any | 8 => (.eq (.int .i64 0)) | _ => .any)) (CA w0 6 7 33 (fun w b => Box w b #[.bool false, .slice none 0 0, .slice none 0 0] 26) (fun w b => VarF w b (fr false 0 1))) _) (by kernel_rfl) ?_ ?_ (GJ.start CA.start)
  · intro listed a w9 i hr hj
    obtain ⟨hi12, hun, _, _, _⟩ := ready_mem hr
    have h12 : i ∈ List.range 9 := List.mem_range.2 hi12
    simp only [List.range, List.range.loop, List.mem_cons, List.not_mem_nil, or_false] at h12
    obtain ⟨f, ha, hcm, hf, hdo, hdi⟩ := hj.open2 [268, 269, 270, 267, 271, 272, 33, 25] (by kernel_rfl) (by kernel_rfl)
    simp only [List.foldl_cons, List.foldl_nil, List.setIfInBounds_toArray, List.set_cons_zero, List.set_cons_succ] at ha
    subst ha
    replace hcm : CA w0 6 7 33 (fun w b => Box w b #[.bool false, .slice none 0 0, .slice none 0 0] 26) (fun w b => VarF w b (fr false 0 1)) listed f w9 := hcm
    have hlsz : listed.size = 9 := hj.lsize
    rcases h12 with rfl | rfl | rfl | rfl | rfl | rfl | rfl | rfl | rfl
    · have nS : ¬ up listed 7 := fun h => not_up hun (hj.closed 7 0 h (by kernel_rfl))
      have HCM := Lib.hid hcm; clear hcm
      have hcs := ((BX.out.after HCM.out.below).cells8)
      obtain ⟨d0, d1, d2, d3, d4, d5, d6, d7⟩ := hcs
      have dl := (BX.out.after HCM.out.below).lt
      refine GJ.op hj hdo hr rfl _ hdi (fun K hK => ?_)
      simp only [Act.put, List.setIfInBounds_toArray] at hK ⊢; clear hj hf hdo hdi
      go_simp
      exact hK _ _ (fun k v _ _ h => h.keep (Below.refl _ _)) (fun t ht => SS.of (.eq (.agg #[.slice px0 X.hosts.length kx0, .slice px1 X.waves.length kx1, .bool X.rate.neg, .slice px2 X.rate.num.length kx2, .slice px3 X.rate.den.length kx3, .bool X.bound.neg, .slice px4 X.bound.num.length kx4, .slice px5 X.bound.den.length kx5])) rfl rfl) (HCM.out.keep (by decide) (by decide) (by rfl) (stayBox _ _) (stayVar _) (Below.refl _ _))
    · have nS : ¬ up listed 7 := fun h => not_up hun (hj.closed 7 1 h (by kernel_rfl))
      have HCM := Lib.hid hcm; clear hcm
      refine GJ.op hj hdo hr rfl _ hdi (fun K hK => ?_)
      simp only [Act.put, List.setIfInBounds_toArray] at hK ⊢; clear hj hf hdo hdi
      go_simp
      refine (of32_c _ 1 1 (by omega) (by omega) (by omega) (by omega)).mono ?_
      rw [of_11]
      rintro e w11 ⟨v11, rfl, hv, hb⟩
      exact hK _ _ (fun k v _ _ h => h.keep (hb)) (fun t ht => SS.of (kF (fr false 1 1)) rfl (fun _ => hv)) (HCM.out.keep (by decide) (by decide) (by rfl) (stayBox _ _) (stayVar _) (hb))
    · have nS : ¬ up listed 7 := fun h => not_up hun (hj.closed 7 2 h (by kernel_rfl))
      have e1 : f 268 = .agg #[.slice px0 X.hosts.length kx0, .slice px1 X.waves.length kx1, .bool X.rate.neg, .slice px2 X.rate.num.length kx2, .slice px3 X.rate.den.length kx3, .bool X.bound.neg, .slice px4 X.bound.num.length kx4, .slice px5 X.bound.den.length kx5] := hf 0 _ _ rfl rfl (up_dep hr (by kernel_rfl))
      have s2 : IsF w9 (f 269) (fr false 1 1) := (hf 1 _ _ rfl rfl (up_dep hr (by kernel_rfl))) nS
      have HCM := Lib.hid hcm; clear hcm
      refine GJ.op hj hdo hr rfl _ hdi (fun K hK => ?_)
      simp only [Act.put, List.setIfInBounds_toArray] at hK ⊢; clear hj hf hdo hdi
      rw [e1] at hK ⊢; clear e1
      go_simp
      refine (Chance_c _ _ _ X _ (HRX.out.after HCM.out.below) s2).mono ?_
      rw [HCH.out]
      rintro e w11 ⟨v11, rfl, hv, hb⟩
      have hv : IsF w11 v11 (fr false 0 1) := hv
      exact hK _ _ (fun k v _ _ h => h.keep (hb)) (fun t ht => SS.of (kU (fr false 0 1) (0)) rfl ⟨⟨_, rfl⟩, fun _ => ⟨_, rfl, hv⟩⟩) (HCM.out.keep (by decide) (by decide) (by rfl) (stayBox _ _) (stayVar _) (hb))
    · have nS : ¬ up listed 7 := fun h => not_up hun (hj.closed 7 3 h (by kernel_rfl))
      have s1 : ∃ u, f 270 = .tuple #[u, .int .i64 0] ∧ IsF w9 u (fr false 0 1) := (hf 2 _ _ rfl rfl (up_dep hr (by kernel_rfl))).2 nS
      have HCM := Lib.hid hcm; clear hcm
      obtain ⟨uu, zz, hu⟩ := s1
      refine GJ.op hj hdo hr rfl _ hdi (fun K hK => ?_)
      simp only [Act.put, List.setIfInBounds_toArray] at hK ⊢; clear hj hf hdo hdi
      rw [zz] at hK ⊢
      go_simp
      exact hK _ _ (fun k v _ _ h => h.keep (Below.refl _ _)) (fun t ht => SS.of (kU (fr false 0 1) (0)) rfl ⟨⟨_, rfl⟩, fun _ => ⟨_, rfl, hu⟩⟩) (HCM.out.keep (by decide) (by decide) (by rfl) (stayBox _ _) (stayVar _) (Below.refl _ _))
    · have nS : ¬ up listed 7 := fun h => not_up hun (hj.closed 7 4 h (by kernel_rfl))
      have s1 : ∃ u, f 267 = .tuple #[u, .int .i64 0] ∧ IsF w9 u (fr false 0 1) := (hf 3 _ _ rfl rfl (up_dep hr (by kernel_rfl))).2 nS
      have HCM := Lib.hid hcm; clear hcm
      obtain ⟨uu, zz, hu⟩ := s1
      refine GJ.op hj hdo hr rfl _ hdi (fun K hK => ?_)
      simp only [Act.put, List.setIfInBounds_toArray] at hK ⊢; clear hj hf hdo hdi
      rw [zz] at hK ⊢
      go_simp
      exact hK _ _ (fun k v _ _ h => h.keep (Below.refl _ _)) (fun t ht => SS.of (kF (fr false 0 1)) rfl (fun _ => hu)) (HCM.out.keep (by decide) (by decide) (by rfl) (stayBox _ _) (stayVar _) (Below.refl _ _))
    · have s1 : ∃ u, f 267 = .tuple #[u, .int .i64 (0)] := (hf 3 _ _ rfl rfl (up_dep hr (by kernel_rfl))).1
      have HCM := Lib.hid hcm; clear hcm
      obtain ⟨uu, zz⟩ := s1
      refine GJ.op hj hdo hr rfl _ hdi (fun K hK => ?_)
      simp only [Act.put, List.setIfInBounds_toArray] at hK ⊢; clear hj hf hdo hdi
      rw [zz] at hK ⊢
      go_simp
      exact hK _ _ (fun k v _ _ h => h.keep (Below.refl _ _)) (fun t ht => SS.of (.eq (.int .i64 0)) rfl rfl) (HCM.out.keep (by decide) (by decide) (by rfl) (stayBox _ _) (stayVar _) (Below.refl _ _))
    · have nS : ¬ up listed 7 := fun h => not_up hun (hj.closed 7 6 h (by kernel_rfl))
      have HCM := Lib.hid hcm; clear hcm
      refine GJ.op hj hdo hr rfl _ hdi (fun K hK => ?_)
      simp only [Act.put, List.setIfInBounds_toArray] at hK ⊢; clear hj hf hdo hdi
      go_simp
      exact hK _ _ (fun k v _ _ h => h.keep (held_alloc (Below.refl _ _))) (fun t ht => SS.of .any rfl trivial) (HCM.out.alloc (by decide) nS (held_alloc (Below.refl _ _)) (by rfl) HCM.out.below.size (Box.new _ _ _))
    · have nS : ¬ up listed 7 := not_up hun
      have s1 : IsF w9 (f 271) (fr false 0 1) := (hf 4 _ _ rfl rfl (up_dep hr (by kernel_rfl))) nS
      have HCM := Lib.hid hcm; clear hcm
      obtain ⟨bv, ev, hBv, hzv, _⟩ := HCM.out.var (up_dep hr (by kernel_rfl))
      have hbx := hzv nS
      obtain ⟨va, vb, zz, h1, h2⟩ := s1
      obtain ⟨pp, cc, rfl, _, _⟩ := h1.shape
      obtain ⟨qq, dd, rfl, _, _⟩ := h2.shape
      refine GJ.op hj hdo hr rfl _ hdi (fun K hK => ?_)
      simp only [Act.put] at hK ⊢; clear hj hf hdo hdi
      rw [zz] at hK ⊢
      rw [ev] at hK ⊢
      have kx0 := hbx.cell 0
      have kx1 := hbx.cell 1
      have kx2 := hbx.cell 2
      have fx0 := hbx.frozen 0
      have fx1 := hbx.frozen 1
      have fx2 := hbx.frozen 2
      have yl := hbx.lt
      have HBX := Lib.hid hbx
      clear hbx hzv
      go_simp
      exact hK undef _ (fun k v _ _ h => h.put (up_self (by rw [hlsz]; decide))) (fun t ht => by cases ht) (CA.put (by rw [hlsz]; decide) (((HCM.out.below.setCell hBv _).setCell hBv _).setCell hBv _) (by rfl) hBv (frac_store HBX.out h1 h2))
    · have e1 : f 272 = .int .i64 0 := hf 5 _ _ rfl rfl (up_dep hr (by kernel_rfl))
      have HCM := Lib.hid hcm; clear hcm
      refine GJ.op hj hdo hr rfl _ hdi (fun K hK => ?_)
      simp only [Act.put, List.setIfInBounds_toArray] at hK ⊢; clear hj hf hdo hdi
      rw [e1] at hK ⊢; clear e1
      go_simp
      exact hK _ _ (fun k v _ _ h => h.keep (Below.refl _ _)) (fun t ht => SS.of (.eq (.int .i64 0)) rfl rfl) (HCM.out.keep (by decide) (by decide) (by rfl) (stayBox _ _) (stayVar _) (Below.refl _ _))
  · intro listed a w10 hr hj
    have hu : ∀ k, k < 9 → up listed k := fun k hk => all_up (by kernel_rfl) hj.lsize hr k hk
    have hlsz : listed.size = 9 := hj.lsize
    obtain ⟨f, ha, hcm, hf, hdo, hdi⟩ := hj.open2 [268, 269, 270, 267, 271, 272, 33, 25] (by kernel_rfl) (by kernel_rfl)
    simp only [List.foldl_cons, List.foldl_nil, List.setIfInBounds_toArray, List.set_cons_zero, List.set_cons_succ] at ha
    subst ha
    replace hcm : CA w0 6 7 33 (fun w b => Box w b #[.bool false, .slice none 0 0, .slice none 0 0] 26) (fun w b => VarF w b (fr false 0 1)) listed f w10 := hcm
    have E8 : f 25 = .int .i64 0 := hf 8 _ _ rfl rfl (hu 8 (by omega))
    obtain ⟨bv, EV, hBV, _, hNV⟩ := hcm.var (hu 6 (by omega))
    have VY := hNV (hu 7 (by omega))
    have HBR := hcm.below
    clear hf hj hr hu hcm hlsz hdo hdi hNV
    rw [E8]
    clear E8
    rw [EV]
    clear EV
    generalize f 267 = g267
    generalize f 268 = g268
    generalize f 269 = g269
    generalize f 270 = g270
    generalize f 271 = g271
    generalize f 272 = g272
    exact hQ.out _ _ _ _ _ _ _ _ hBV VY HBR
set_option maxRecDepth 100000 in
set_option maxHeartbeats 16000000 in
theorem known_r36 (ops : Array Oper) (hops : (Try.f3.body.bind (regOf 36)) = some ops) {w0 : World} {pSA pSB pSC pX1 pX2 pY1 pY2 : Option Addr} {cSA cSB cSC cX1 cX2 cY1 cY2 bX bY : Nat} {Q : Exit → Act → World → Prop} {x0 x1 x2 x3 x4 x5 x6 x7 x8 x9 x10 x11 x12 x13 x14 x15 x16 x17 x18 x20 x22 x24 x26 x28 x31 x35 x36 x37 x38 x39 x40 x41 x42 x43 x44 x45 x46 x47 x48 x49 x50 x51 x52 x53 x54 x55 x56 x57 x58 x59 x60 x61 x62 x63 x64 x65 x66 x67 x68 x69 x70 x71 x72 x73 x74 x75 x76 x77 x78 x79 x80 x81 x82 x83 x84 x85 x86 x87 x88 x89 x90 x91 x92 x93 x94 x95 x96 x97 x98 x99 x100 x101 x102 x103 x104 x105 x106 x107 x108 x109 x110 x111 x112 x113 x114 x115 x116 x117 x118 x119 x120 x121 x122 x123 x124 x125 x126 x127 x128 x129 x130 x131 x132 x133 x134 x135 x136 x137 x138 x139 x140 x141 x142 x143 x144 x145 x146 x147 x148 x149 x150 x151 x152 x153 x154 x155 x156 x157 x158 x159 x160 x161 x162 x163 x164 x165 x166 x167 x168 x169 x170 x171 x172 x173 x174 x175 x176 x177 x178 x179 x180 x181 x182 x183 x184 x185 x186 x187 x188 x189 x190 x191 x192 x193 x194 x195 x196 x197 x198 x199 x200 x201 x202 x203 x204 x205 x206 x207 x208 x209 x210 x211 x212 x213 x214 x215 x216 x217 x218 x219 x220 x221 x222 x223 x224 x225 x226 x227 x228 x229 x230 x231 x232 x233 x234 x235 x236 x237 x238 x239 x240 x241 x242 x243 x244 x245 x246 x247 x248 x249 x250 x251 x252 x253 x254 x255 x256 x257 x258 x259 x260 x261 x262 x263 x264 x265 x266 x267 x268 x269 x270 x271 x272 x273 x274 x275 x276 x277 x278 x279 x280 x281 x282 x283 x284 x285 x286 x287 x288 x289 x290 x291 x292 x293 x294 x295 x296 x297 x298 x299 x300 x301 x302 x303 x304 x305 x306 x307 x308 x309 x310 x311 x312 x313 x314 x315 x316 x317 x318 x319 x320 x321 x322 x323 x324 x325 : Value}
    (SA : Hid (SlI w0 (.slice pSA [-1, -1].length cSA) [-1, -1])) (SB : Hid (SlI w0 (.slice pSB [1, 2].length cSB) [1, 2])) (SC : Hid (SlI w0 (.slice pSC [0, 0].length cSC) [0, 0])) (BVX : Hid (Box w0 bX #[.bool (fr false 1 1).neg, .slice pX1 (fr false 1 1).num.length cX1, .slice pX2 (fr false 1 1).den.length cX2] 26)) (HVX : Hid (IsF w0 (.agg #[.bool (fr false 1 1).neg, .slice pX1 (fr false 1 1).num.length cX1, .slice pX2 (fr false 1 1).den.length cX2]) (fr false 1 1))) (BVY : Hid (Box w0 bY #[.bool (fr false 0 1).neg, .slice pY1 (fr false 0 1).num.length cY1, .slice pY2 (fr false 0 1).den.length cY2] 26)) (HVY : Hid (IsF w0 (.agg #[.bool (fr false 0 1).neg, .slice pY1 (fr false 0 1).num.length cY1, .slice pY2 (fr false 0 1).den.length cY2]) (fr false 0 1)))
    (hQ : ∀ (w10 : World) (y280 y281 y282 y283 y284 y285 y286 y287 y288 y289 y290 y291 y292 y293 y294 y295 y296 y297 y298 y299 y300 y301 y302 y303 y304 y305 y306 y307 y308 y309 y310 y311 y312 y313 y314 y315 y316 y317 y318 y319 y320 y321 y322 y323 y324 y325 : Value), Below w0.heap.size w0 w10 → Q .normal ⟨[.bool true, x1, x2, x3, x4, x5, x6, x7, x8, x9, x10, x11, x12, x13, x14, x15, x16, x17, x18, .int .i64 0, x20, .int .i64 0, x22, .int .i64 0, x24, .int .i64 0, x26, .int .i64 0, x28, .slice pSA [-1, -1].length cSA, .pointer (some ⟨bX, 0, none⟩), x31, .slice pSB [1, 2].length cSB, .pointer (some ⟨bY, 0, none⟩), .slice pSC [0, 0].length cSC, x35, x36, x37, x38, x39, x40, x41, x42, x43, x44, x45, x46, x47, x48, x49, x50, x51, x52, x53, x54, x55, x56, x57, x58, x59, x60, x61, x62, x63, x64, x65, x66, x67, x68, x69, x70, x71, x72, x73, x74, x75, x76, x77, x78, x79, x80, x81, x82, x83, x84, x85, x86, x87, x88, x89, x90, x91, x92, x93, x94, x95, x96, x97, x98, x99, x100, x101, x102, x103, x104, x105, x106, x107, x108, x109, x110, x111, x112, x113, x114, x115, x116, x117, x118, x119, x120, x121, x122, x123, x124, x125, x126, x127, x128, x129, x130, x131, x132, x133, x134, x135, x136, x137, x138, x139, x140, x141, x142, x143, x144, x145, x146, x147, x148, x149, x150, x151, x152, x153, x154, x155, x156, x157, x158, x159, x160, x161, x162, x163, x164, x165, x166, x167, x168, x169, x170, x171, x172, x173, x174, x175, x176, x177, x178, x179, x180, x181, x182, x183, x184, x185, x186, x187, x188, x189, x190, x191, x192, x193, x194, x195, x196, x197, x198, x199, x200, x201, x202, x203, x204, x205, x206, x207, x208, x209, x210, x211, x212, x213, x214, x215, x216, x217, x218, x219, x220, x221, x222, x223, x224, x225, x226, x227, x228, x229, x230, x231, x232, x233, x234, x235, x236, x237, x238, x239, x240, x241, x242, x243, x244, x245, x246, x247, x248, x249, x250, x251, x252, x253, x254, x255, x256, x257, x258, x259, x260, x261, x262, x263, x264, x265, x266, x267, x268, x269, x270, x271, x272, x273, x274, x275, x276, x277, x278, x279, y280, y281, y282, y283, y284, y285, y286, y287, y288, y289, y290, y291, y292, y293, y294, y295, y296, y297, y298, y299, y300, y301, y302, y303, y304, y305, y306, y307, y308, y309, y310, y311, y312, y313, y314, y315, y316, y317, y318, y319, y320, y321, y322, y323, y324, y325].toArray, []⟩ w10) :
    (Code.region 36 ops true).wp Try.prog Q ⟨[x0, x1, x2, x3, x4, x5, x6, x7, x8, x9, x10, x11, x12, x13, x14, x15, x16, x17, x18, .int .i64 0, x20, .int .i64 0, x22, .int .i64 0, x24, .int .i64 0, x26, .int .i64 0, x28, .slice pSA [-1, -1].length cSA, .pointer (some ⟨bX, 0, none⟩), x31, .slice pSB [1, 2].length cSB, .pointer (some ⟨bY, 0, none⟩), .slice pSC [0, 0].length cSC, x35, x36, x37, x38, x39, x40, x41, x42, x43, x44, x45, x46, x47, x48, x49, x50, x51, x52, x53, x54, x55, x56, x57, x58, x59, x60, x61, x62, x63, x64, x65, x66, x67, x68, x69, x70, x71, x72, x73, x74, x75, x76, x77, x78, x79, x80, x81, x82, x83, x84, x85, x86, x87, x88, x89, x90, x91, x92, x93, x94, x95, x96, x97, x98, x99, x100, x101, x102, x103, x104, x105, x106, x107, x108, x109, x110, x111, x112, x113, x114, x115, x116, x117, x118, x119, x120, x121, x122, x123, x124, x125, x126, x127, x128, x129, x130, x131, x132, x133, x134, x135, x136, x137, x138, x139, x140, x141, x142, x143, x144, x145, x146, x147, x148, x149, x150, x151, x152, x153, x154, x155, x156, x157, x158, x159, x160, x161, x162, x163, x164, x165, x166, x167, x168, x169, x170, x171, x172, x173, x174, x175, x176, x177, x178, x179, x180, x181, x182, x183, x184, x185, x186, x187, x188, x189, x190, x191, x192, x193, x194, x195, x196, x197, x198, x199, x200, x201, x202, x203, x204, x205, x206, x207, x208, x209, x210, x211, x212, x213, x214, x215, x216, x217, x218, x219, x220, x221, x222, x223, x224, x225, x226, x227, x228, x229, x230, x231, x232, x233, x234, x235, x236, x237, x238, x239, x240, x241, x242, x243, x244, x245, x246, x247, x248, x249, x250, x251, x252, x253, x254, x255, x256, x257, x258, x259, x260, x261, x262, x263, x264, x265, x266, x267, x268, x269, x270, x271, x272, x273, x274, x275, x276, x277, x278, x279, x280, x281, x282, x283, x284, x285, x286, x287, x288, x289, x290, x291, x292, x293, x294, x295, x296, x297, x298, x299, x300, x301, x302, x303, x304, x305, x306, x307, x308, x309, x310, x311, x312, x313, x314, x315, x316, x317, x318, x319, x320, x321, x322, x323, x324, x325].toArray, []⟩ w0 := by
  simp only [Try.f3, Option.bind_some, regOf] at hops
  replace hops := Option.some.inj hops
  subst hops
  replace hQ := Lib.hid hQ
  refine wp_region_gj (J := GJ _ (SS 999 (fun κ => match κ with | 0 => (.eq (.slice pSA [-1, -1].length cSA)) | 1 => (kI ([-1, -1])) | 2 => (.eq (.bool true)) | 3 => (.eq (.bool true)) | 4 => (.eq (.int .i64 0)) | 5 => (.eq (.bool true)) | 6 => (.eq (.bool true)) | 7 => (.eq (.bool true)) | 8 => (.eq (.agg #[.bool (fr false 1 1).neg, .slice pX1 (fr false 1 1).num.length cX1, .slice pX2 (fr false 1 1).den.length cX2])) | 9 => (kF (fr false 1 1)) | 10 => (.eq (.bool true)) | 11 => (.eq (.bool true)) | 12 => (.eq (.bool true)) | 13 => (.eq (.int .i64 0)) | 14 => (.eq (.bool true)) | 15 => (.eq (.bool true)) | 16 => (.eq (.bool true)) | 17 => (.eq (.slice pSB [1, 2].length cSB)) | 18 => (kI ([1, 2])) | 19 => (.eq (.bool true)) | 20 => (.eq (.bool true)) | 21 => (.eq (.bool true)) | 22 => (.eq (.int .i64 0)) | 23 => (.eq (.bool true)) | 24 => (.eq (.bool true)) | 25 => (.eq (.bool true)) | 26 => (.eq (.agg #[.bool (fr false 0 1).neg, .slice pY1 (fr false 0 1).num.length cY1, .slice pY2 (fr false 0 1).den.length cY2])) | 27 => (kF (fr false 0 1)) | 28 => (.eq (.bool true)) | 29 => (.eq (.bool true)) | 30 => (.eq (.bool true)) | 31 => (.eq (.int .i64 0)) | 32 => (.eq (.bool true)) | 33 => (.eq (.bool true)) | 34 => (.eq (.bool true)) | 35 => (.eq (.slice pSC [0, 0].length cSC)) | 36 => (kI ([0, 0])) | 37 => (.eq (.bool true)) | 38 => (.eq (.bool true)) | 39 => (.eq (.bool true)) | 40 => (.eq (.int .i64 0)) | 41 => (.eq (.bool true)) | 42 => (.eq (.bool true)) | 43 => (.eq (.bool true)) | 44 => (.eq (.bool true)) | 45 => (.eq (.bool true)) | 46 => (.eq (.bool true)) | _ => .any)) (CS w0 999 (fun _ => True)) _) (by kernel_rfl) ?_ ?_ (GJ.start CS.start)
  · intro listed a w9 i hr hj
    obtain ⟨hi12, hun, _, _, _⟩ := ready_mem hr
    have h12 : i ∈ List.range 47 := List.mem_range.2 hi12
    simp only [List.range, List.range.loop, List.mem_cons, List.not_mem_nil, or_false] at h12
    obtain ⟨f, ha, hcm, hf, hdo, hdi⟩ := hj.open2 [280, 281, 282, 283, 284, 285, 286, 287, 288, 289, 290, 291, 292, 293, 294, 295, 296, 297, 298, 299, 300, 301, 302, 303, 304, 305, 306, 307, 308, 309, 310, 311, 312, 313, 314, 315, 316, 317, 318, 319, 320, 321, 322, 323, 324, 325, 0] (by kernel_rfl) (by kernel_rfl)
    simp only [List.foldl_cons, List.foldl_nil, List.setIfInBounds_toArray, List.set_cons_zero, List.set_cons_succ] at ha
    subst ha
    replace hcm : CS w0 999 (fun _ => True) listed f w9 := hcm
    have hlsz : listed.size = 47 := hj.lsize
    rcases h12 with rfl | rfl | rfl | rfl | rfl | rfl | rfl | rfl | rfl | rfl | rfl | rfl | rfl | rfl | rfl | rfl | rfl | rfl | rfl | rfl | rfl | rfl | rfl | rfl | rfl | rfl | rfl | rfl | rfl | rfl | rfl | rfl | rfl | rfl | rfl | rfl | rfl | rfl | rfl | rfl | rfl | rfl | rfl | rfl | rfl | rfl | rfl
    · have nS : ¬ up listed 999 := not_up_ge (by rw [hlsz]; decide)
      have HCM := Lib.hid hcm; clear hcm
      refine GJ.op hj hdo hr rfl _ hdi (fun K hK => ?_)
      simp only [Act.put, List.setIfInBounds_toArray] at hK ⊢; clear hj hf hdo hdi
      go_simp
      exact hK _ _ (fun k v _ _ h => h.keep (Below.refl _ _)) (fun t ht => SS.of (.eq (.slice pSA [-1, -1].length cSA)) rfl rfl) (HCM.out.keep (by decide) (fun _ _ h _ => h) (Below.refl _ _))
    · have nS : ¬ up listed 999 := not_up_ge (by rw [hlsz]; decide)
      have HCM := Lib.hid hcm; clear hcm
      refine GJ.op hj hdo hr rfl _ hdi (fun K hK => ?_)
      simp only [Act.put, List.setIfInBounds_toArray] at hK ⊢; clear hj hf hdo hdi
      go_simp
      exact hK _ _ (fun k v _ _ h => h.keep (held_alloc (Below.refl _ _))) (fun t ht => SS.of (kI ([-1, -1])) rfl (fun _ => SlI.lit (l := [-1, -1]) (Box.new _ _ _) rfl (in_lit _ (by decide)) (by decide))) (HCM.out.keep (by decide) (fun _ _ h _ => h) (held_alloc (Below.refl _ _)))
    · have nS : ¬ up listed 999 := not_up_ge (by rw [hlsz]; decide)
      have e1 : f 280 = .slice pSA [-1, -1].length cSA := hf 0 _ _ rfl rfl (up_dep hr (by kernel_rfl))
      have s2 : SlI w9 (f 281) ([-1, -1]) := (hf 1 _ _ rfl rfl (up_dep hr (by kernel_rfl))) nS
      have HCM := Lib.hid hcm; clear hcm
      refine GJ.op hj hdo hr rfl _ hdi (fun K hK => ?_)
      simp only [Act.put, List.setIfInBounds_toArray] at hK ⊢; clear hj hf hdo hdi
      rw [e1] at hK ⊢; clear e1
      go_simp
      refine (equal_i _ _ _ [-1, -1] [-1, -1] (SA.out.after HCM.out.below) s2).mono ?_
      intro e w11 hr1
      obtain ⟨rfl, n11, rfl⟩ := hr1.yes rfl
      exact hK _ _ (fun k v _ _ h => h.keep (below_drewN w9 n11 _)) (fun t ht => SS.of (.eq (.bool true)) rfl rfl) (HCM.out.keep (by decide) (fun _ _ h _ => h) (below_drewN w9 n11 _))
    · have nS : ¬ up listed 999 := not_up_ge (by rw [hlsz]; decide)
      have e1 : f 282 = .bool true := hf 2 _ _ rfl rfl (up_dep hr (by kernel_rfl))
      have HCM := Lib.hid hcm; clear hcm
      refine GJ.op hj hdo hr rfl _ hdi (fun K hK => ?_)
      simp only [Act.put, List.setIfInBounds_toArray] at hK ⊢; clear hj hf hdo hdi
      rw [e1] at hK ⊢; clear e1
      go_simp
      exact hK _ _ (fun k v _ _ h => h.keep (Below.refl _ _)) (fun t ht => SS.of (.eq (.bool true)) rfl rfl) (HCM.out.keep (by decide) (fun _ _ h _ => h) (Below.refl _ _))
    · have gg := hj.got 3 _ _ rfl rfl (up_dep hr (by kernel_rfl))
      have nS : ¬ up listed 999 := not_up_ge (by rw [hlsz]; decide)
      have HCM := Lib.hid hcm; clear hcm
      refine GJ.wanted hj hdo hr rfl _ hdi rfl (j := 3) rfl rfl (c := true) gg rfl (fun K hK => ?_)
      clear gg
      simp only [Act.put, List.setIfInBounds_toArray] at hK ⊢; clear hj hf hdo hdi
      go_simp
      exact hK _ _ (fun k v _ _ h => h.keep (Below.refl _ _)) (fun t ht => SS.of (.eq (.int .i64 0)) rfl rfl) (HCM.out.keep (by decide) (fun _ _ h _ => h) (Below.refl _ _))
    · have gg := hj.got 3 _ _ rfl rfl (up_dep hr (by kernel_rfl))
      have nS : ¬ up listed 999 := not_up_ge (by rw [hlsz]; decide)
      have e1 : f 284 = .int .i64 0 := hf 4 _ _ rfl rfl (up_dep hr (by kernel_rfl))
      have HCM := Lib.hid hcm; clear hcm
      refine GJ.wanted hj hdo hr rfl _ hdi rfl (j := 3) rfl rfl (c := true) gg rfl (fun K hK => ?_)
      clear gg
      simp only [Act.put, List.setIfInBounds_toArray] at hK ⊢; clear hj hf hdo hdi
      rw [e1] at hK ⊢; clear e1
      go_simp
      exact hK _ _ (fun k v _ _ h => h.keep (Below.refl _ _)) (fun t ht => SS.of (.eq (.bool true)) rfl rfl) (HCM.out.keep (by decide) (fun _ _ h _ => h) (Below.refl _ _))
    · have nS : ¬ up listed 999 := not_up_ge (by rw [hlsz]; decide)
      have e1 : f 283 = .bool true := hf 3 _ _ rfl rfl (up_dep hr (by kernel_rfl))
      have e2 : f 285 = .bool true := hf 5 _ _ rfl rfl (up_dep hr (by kernel_rfl))
      have HCM := Lib.hid hcm; clear hcm
      refine GJ.op hj hdo hr rfl _ hdi (fun K hK => ?_)
      simp only [Act.put, List.setIfInBounds_toArray] at hK ⊢; clear hj hf hdo hdi
      rw [e1, e2] at hK ⊢; clear e1 e2
      go_simp
      exact hK _ _ (fun k v _ _ h => h.keep (Below.refl _ _)) (fun t ht => SS.of (.eq (.bool true)) rfl rfl) (HCM.out.keep (by decide) (fun _ _ h _ => h) (Below.refl _ _))
    · have nS : ¬ up listed 999 := not_up_ge (by rw [hlsz]; decide)
      have e1 : f 286 = .bool true := hf 6 _ _ rfl rfl (up_dep hr (by kernel_rfl))
      have HCM := Lib.hid hcm; clear hcm
      refine GJ.op hj hdo hr rfl _ hdi (fun K hK => ?_)
      simp only [Act.put, List.setIfInBounds_toArray] at hK ⊢; clear hj hf hdo hdi
      rw [e1] at hK ⊢; clear e1
      go_simp
      exact hK _ _ (fun k v _ _ h => h.keep (Below.refl _ _)) (fun t ht => SS.of (.eq (.bool true)) rfl rfl) (HCM.out.keep (by decide) (fun _ _ h _ => h) (Below.refl _ _))
    · have gg := hj.got 7 _ _ rfl rfl (up_dep hr (by kernel_rfl))
      have nS : ¬ up listed 999 := not_up_ge (by rw [hlsz]; decide)
      have HCM := Lib.hid hcm; clear hcm
      have hcs := ((BVX.out.after HCM.out.below).cells3)
      obtain ⟨d0, d1, d2⟩ := hcs
      have dl := (BVX.out.after HCM.out.below).lt
      refine GJ.wanted hj hdo hr rfl _ hdi rfl (j := 7) rfl rfl (c := true) gg rfl (fun K hK => ?_)
      clear gg
      simp only [Act.put, List.setIfInBounds_toArray] at hK ⊢; clear hj hf hdo hdi
      go_simp
      exact hK _ _ (fun k v _ _ h => h.keep (Below.refl _ _)) (fun t ht => SS.of (.eq (.agg #[.bool (fr false 1 1).neg, .slice pX1 (fr false 1 1).num.length cX1, .slice pX2 (fr false 1 1).den.length cX2])) rfl rfl) (HCM.out.keep (by decide) (fun _ _ h _ => h) (Below.refl _ _))
    · have gg := hj.got 7 _ _ rfl rfl (up_dep hr (by kernel_rfl))
      have nS : ¬ up listed 999 := not_up_ge (by rw [hlsz]; decide)
      have HCM := Lib.hid hcm; clear hcm
      refine GJ.wanted hj hdo hr rfl _ hdi rfl (j := 7) rfl rfl (c := true) gg rfl (fun K hK => ?_)
      clear gg
      simp only [Act.put, List.setIfInBounds_toArray] at hK ⊢; clear hj hf hdo hdi
      go_simp
      refine (of32_c _ 1 1 (by omega) (by omega) (by omega) (by omega)).mono ?_
      rw [of_11]
      rintro e w11 ⟨v11, rfl, hv, hb⟩
      exact hK _ _ (fun k v _ _ h => h.keep (hb)) (fun t ht => SS.of (kF (fr false 1 1)) rfl (fun _ => hv)) (HCM.out.keep (by decide) (fun _ _ h _ => h) (hb))
    · have gg := hj.got 7 _ _ rfl rfl (up_dep hr (by kernel_rfl))
      have nS : ¬ up listed 999 := not_up_ge (by rw [hlsz]; decide)
      have e1 : f 288 = .agg #[.bool (fr false 1 1).neg, .slice pX1 (fr false 1 1).num.length cX1, .slice pX2 (fr false 1 1).den.length cX2] := hf 8 _ _ rfl rfl (up_dep hr (by kernel_rfl))
      have s2 : IsF w9 (f 289) (fr false 1 1) := (hf 9 _ _ rfl rfl (up_dep hr (by kernel_rfl))) nS
      have HCM := Lib.hid hcm; clear hcm
      refine GJ.wanted hj hdo hr rfl _ hdi rfl (j := 7) rfl rfl (c := true) gg rfl (fun K hK => ?_)
      clear gg
      simp only [Act.put, List.setIfInBounds_toArray] at hK ⊢; clear hj hf hdo hdi
      rw [e1] at hK ⊢; clear e1
      go_simp
      refine (Same_c _ _ _ (fr false 1 1) (fr false 1 1) (HVX.out.after HCM.out.below) s2).mono ?_
      intro e w11 hr1
      obtain ⟨rfl, hb⟩ := hr1.yes rfl
      exact hK _ _ (fun k v _ _ h => h.keep (hb)) (fun t ht => SS.of (.eq (.bool true)) rfl rfl) (HCM.out.keep (by decide) (fun _ _ h _ => h) (hb))
    · have nS : ¬ up listed 999 := not_up_ge (by rw [hlsz]; decide)
      have e1 : f 287 = .bool true := hf 7 _ _ rfl rfl (up_dep hr (by kernel_rfl))
      have e2 : f 290 = .bool true := hf 10 _ _ rfl rfl (up_dep hr (by kernel_rfl))
      have HCM := Lib.hid hcm; clear hcm
      refine GJ.op hj hdo hr rfl _ hdi (fun K hK => ?_)
      simp only [Act.put, List.setIfInBounds_toArray] at hK ⊢; clear hj hf hdo hdi
      rw [e1, e2] at hK ⊢; clear e1 e2
      go_simp
      exact hK _ _ (fun k v _ _ h => h.keep (Below.refl _ _)) (fun t ht => SS.of (.eq (.bool true)) rfl rfl) (HCM.out.keep (by decide) (fun _ _ h _ => h) (Below.refl _ _))
    · have nS : ¬ up listed 999 := not_up_ge (by rw [hlsz]; decide)
      have e1 : f 291 = .bool true := hf 11 _ _ rfl rfl (up_dep hr (by kernel_rfl))
      have HCM := Lib.hid hcm; clear hcm
      refine GJ.op hj hdo hr rfl _ hdi (fun K hK => ?_)
      simp only [Act.put, List.setIfInBounds_toArray] at hK ⊢; clear hj hf hdo hdi
      rw [e1] at hK ⊢; clear e1
      go_simp
      exact hK _ _ (fun k v _ _ h => h.keep (Below.refl _ _)) (fun t ht => SS.of (.eq (.bool true)) rfl rfl) (HCM.out.keep (by decide) (fun _ _ h _ => h) (Below.refl _ _))
    · have gg := hj.got 12 _ _ rfl rfl (up_dep hr (by kernel_rfl))
      have nS : ¬ up listed 999 := not_up_ge (by rw [hlsz]; decide)
      have HCM := Lib.hid hcm; clear hcm
      refine GJ.wanted hj hdo hr rfl _ hdi rfl (j := 12) rfl rfl (c := true) gg rfl (fun K hK => ?_)
      clear gg
      simp only [Act.put, List.setIfInBounds_toArray] at hK ⊢; clear hj hf hdo hdi
      go_simp
      exact hK _ _ (fun k v _ _ h => h.keep (Below.refl _ _)) (fun t ht => SS.of (.eq (.int .i64 0)) rfl rfl) (HCM.out.keep (by decide) (fun _ _ h _ => h) (Below.refl _ _))
    · have gg := hj.got 12 _ _ rfl rfl (up_dep hr (by kernel_rfl))
      have nS : ¬ up listed 999 := not_up_ge (by rw [hlsz]; decide)
      have e1 : f 293 = .int .i64 0 := hf 13 _ _ rfl rfl (up_dep hr (by kernel_rfl))
      have HCM := Lib.hid hcm; clear hcm
      refine GJ.wanted hj hdo hr rfl _ hdi rfl (j := 12) rfl rfl (c := true) gg rfl (fun K hK => ?_)
      clear gg
      simp only [Act.put, List.setIfInBounds_toArray] at hK ⊢; clear hj hf hdo hdi
      rw [e1] at hK ⊢; clear e1
      go_simp
      exact hK _ _ (fun k v _ _ h => h.keep (Below.refl _ _)) (fun t ht => SS.of (.eq (.bool true)) rfl rfl) (HCM.out.keep (by decide) (fun _ _ h _ => h) (Below.refl _ _))
    · have nS : ¬ up listed 999 := not_up_ge (by rw [hlsz]; decide)
      have e1 : f 292 = .bool true := hf 12 _ _ rfl rfl (up_dep hr (by kernel_rfl))
      have e2 : f 294 = .bool true := hf 14 _ _ rfl rfl (up_dep hr (by kernel_rfl))
      have HCM := Lib.hid hcm; clear hcm
      refine GJ.op hj hdo hr rfl _ hdi (fun K hK => ?_)
      simp only [Act.put, List.setIfInBounds_toArray] at hK ⊢; clear hj hf hdo hdi
      rw [e1, e2] at hK ⊢; clear e1 e2
      go_simp
      exact hK _ _ (fun k v _ _ h => h.keep (Below.refl _ _)) (fun t ht => SS.of (.eq (.bool true)) rfl rfl) (HCM.out.keep (by decide) (fun _ _ h _ => h) (Below.refl _ _))
    · have nS : ¬ up listed 999 := not_up_ge (by rw [hlsz]; decide)
      have e1 : f 295 = .bool true := hf 15 _ _ rfl rfl (up_dep hr (by kernel_rfl))
      have HCM := Lib.hid hcm; clear hcm
      refine GJ.op hj hdo hr rfl _ hdi (fun K hK => ?_)
      simp only [Act.put, List.setIfInBounds_toArray] at hK ⊢; clear hj hf hdo hdi
      rw [e1] at hK ⊢; clear e1
      go_simp
      exact hK _ _ (fun k v _ _ h => h.keep (Below.refl _ _)) (fun t ht => SS.of (.eq (.bool true)) rfl rfl) (HCM.out.keep (by decide) (fun _ _ h _ => h) (Below.refl _ _))
    · have gg := hj.got 16 _ _ rfl rfl (up_dep hr (by kernel_rfl))
      have nS : ¬ up listed 999 := not_up_ge (by rw [hlsz]; decide)
      have HCM := Lib.hid hcm; clear hcm
      refine GJ.wanted hj hdo hr rfl _ hdi rfl (j := 16) rfl rfl (c := true) gg rfl (fun K hK => ?_)
      clear gg
      simp only [Act.put, List.setIfInBounds_toArray] at hK ⊢; clear hj hf hdo hdi
      go_simp
      exact hK _ _ (fun k v _ _ h => h.keep (Below.refl _ _)) (fun t ht => SS.of (.eq (.slice pSB [1, 2].length cSB)) rfl rfl) (HCM.out.keep (by decide) (fun _ _ h _ => h) (Below.refl _ _))
    · have gg := hj.got 16 _ _ rfl rfl (up_dep hr (by kernel_rfl))
      have nS : ¬ up listed 999 := not_up_ge (by rw [hlsz]; decide)
      have HCM := Lib.hid hcm; clear hcm
      refine GJ.wanted hj hdo hr rfl _ hdi rfl (j := 16) rfl rfl (c := true) gg rfl (fun K hK => ?_)
      clear gg
      simp only [Act.put, List.setIfInBounds_toArray] at hK ⊢; clear hj hf hdo hdi
      go_simp
      exact hK _ _ (fun k v _ _ h => h.keep (held_alloc (Below.refl _ _))) (fun t ht => SS.of (kI ([1, 2])) rfl (fun _ => SlI.lit (l := [1, 2]) (Box.new _ _ _) rfl (in_lit _ (by decide)) (by decide))) (HCM.out.keep (by decide) (fun _ _ h _ => h) (held_alloc (Below.refl _ _)))
    · have gg := hj.got 16 _ _ rfl rfl (up_dep hr (by kernel_rfl))
      have nS : ¬ up listed 999 := not_up_ge (by rw [hlsz]; decide)
      have e1 : f 297 = .slice pSB [1, 2].length cSB := hf 17 _ _ rfl rfl (up_dep hr (by kernel_rfl))
      have s2 : SlI w9 (f 298) ([1, 2]) := (hf 18 _ _ rfl rfl (up_dep hr (by kernel_rfl))) nS
      have HCM := Lib.hid hcm; clear hcm
      refine GJ.wanted hj hdo hr rfl _ hdi rfl (j := 16) rfl rfl (c := true) gg rfl (fun K hK => ?_)
      clear gg
      simp only [Act.put, List.setIfInBounds_toArray] at hK ⊢; clear hj hf hdo hdi
      rw [e1] at hK ⊢; clear e1
      go_simp
      refine (equal_i _ _ _ [1, 2] [1, 2] (SB.out.after HCM.out.below) s2).mono ?_
      intro e w11 hr1
      obtain ⟨rfl, n11, rfl⟩ := hr1.yes rfl
      exact hK _ _ (fun k v _ _ h => h.keep (below_drewN w9 n11 _)) (fun t ht => SS.of (.eq (.bool true)) rfl rfl) (HCM.out.keep (by decide) (fun _ _ h _ => h) (below_drewN w9 n11 _))
    · have nS : ¬ up listed 999 := not_up_ge (by rw [hlsz]; decide)
      have e1 : f 296 = .bool true := hf 16 _ _ rfl rfl (up_dep hr (by kernel_rfl))
      have e2 : f 299 = .bool true := hf 19 _ _ rfl rfl (up_dep hr (by kernel_rfl))
      have HCM := Lib.hid hcm; clear hcm
      refine GJ.op hj hdo hr rfl _ hdi (fun K hK => ?_)
      simp only [Act.put, List.setIfInBounds_toArray] at hK ⊢; clear hj hf hdo hdi
      rw [e1, e2] at hK ⊢; clear e1 e2
      go_simp
      exact hK _ _ (fun k v _ _ h => h.keep (Below.refl _ _)) (fun t ht => SS.of (.eq (.bool true)) rfl rfl) (HCM.out.keep (by decide) (fun _ _ h _ => h) (Below.refl _ _))
    · have nS : ¬ up listed 999 := not_up_ge (by rw [hlsz]; decide)
      have e1 : f 300 = .bool true := hf 20 _ _ rfl rfl (up_dep hr (by kernel_rfl))
      have HCM := Lib.hid hcm; clear hcm
      refine GJ.op hj hdo hr rfl _ hdi (fun K hK => ?_)
      simp only [Act.put, List.setIfInBounds_toArray] at hK ⊢; clear hj hf hdo hdi
      rw [e1] at hK ⊢; clear e1
      go_simp
      exact hK _ _ (fun k v _ _ h => h.keep (Below.refl _ _)) (fun t ht => SS.of (.eq (.bool true)) rfl rfl) (HCM.out.keep (by decide) (fun _ _ h _ => h) (Below.refl _ _))
    · have gg := hj.got 21 _ _ rfl rfl (up_dep hr (by kernel_rfl))
      have nS : ¬ up listed 999 := not_up_ge (by rw [hlsz]; decide)
      have HCM := Lib.hid hcm; clear hcm
      refine GJ.wanted hj hdo hr rfl _ hdi rfl (j := 21) rfl rfl (c := true) gg rfl (fun K hK => ?_)
      clear gg
      simp only [Act.put, List.setIfInBounds_toArray] at hK ⊢; clear hj hf hdo hdi
      go_simp
      exact hK _ _ (fun k v _ _ h => h.keep (Below.refl _ _)) (fun t ht => SS.of (.eq (.int .i64 0)) rfl rfl) (HCM.out.keep (by decide) (fun _ _ h _ => h) (Below.refl _ _))
    · have gg := hj.got 21 _ _ rfl rfl (up_dep hr (by kernel_rfl))
      have nS : ¬ up listed 999 := not_up_ge (by rw [hlsz]; decide)
      have e1 : f 302 = .int .i64 0 := hf 22 _ _ rfl rfl (up_dep hr (by kernel_rfl))
      have HCM := Lib.hid hcm; clear hcm
      refine GJ.wanted hj hdo hr rfl _ hdi rfl (j := 21) rfl rfl (c := true) gg rfl (fun K hK => ?_)
      clear gg
      simp only [Act.put, List.setIfInBounds_toArray] at hK ⊢; clear hj hf hdo hdi
      rw [e1] at hK ⊢; clear e1
      go_simp
      exact hK _ _ (fun k v _ _ h => h.keep (Below.refl _ _)) (fun t ht => SS.of (.eq (.bool true)) rfl rfl) (HCM.out.keep (by decide) (fun _ _ h _ => h) (Below.refl _ _))
    · have nS : ¬ up listed 999 := not_up_ge (by rw [hlsz]; decide)
      have e1 : f 301 = .bool true := hf 21 _ _ rfl rfl (up_dep hr (by kernel_rfl))
      have e2 : f 303 = .bool true := hf 23 _ _ rfl rfl (up_dep hr (by kernel_rfl))
      have HCM := Lib.hid hcm; clear hcm
      refine GJ.op hj hdo hr rfl _ hdi (fun K hK => ?_)
      simp only [Act.put, List.setIfInBounds_toArray] at hK ⊢; clear hj hf hdo hdi
      rw [e1, e2] at hK ⊢; clear e1 e2
      go_simp
      exact hK _ _ (fun k v _ _ h => h.keep (Below.refl _ _)) (fun t ht => SS.of (.eq (.bool true)) rfl rfl) (HCM.out.keep (by decide) (fun _ _ h _ => h) (Below.refl _ _))
    · have nS : ¬ up listed 999 := not_up_ge (by rw [hlsz]; decide)
      have e1 : f 304 = .bool true := hf 24 _ _ rfl rfl (up_dep hr (by kernel_rfl))
      have HCM := Lib.hid hcm; clear hcm
      refine GJ.op hj hdo hr rfl _ hdi (fun K hK => ?_)
      simp only [Act.put, List.setIfInBounds_toArray] at hK ⊢; clear hj hf hdo hdi
      rw [e1] at hK ⊢; clear e1
      go_simp
      exact hK _ _ (fun k v _ _ h => h.keep (Below.refl _ _)) (fun t ht => SS.of (.eq (.bool true)) rfl rfl) (HCM.out.keep (by decide) (fun _ _ h _ => h) (Below.refl _ _))
    · have gg := hj.got 25 _ _ rfl rfl (up_dep hr (by kernel_rfl))
      have nS : ¬ up listed 999 := not_up_ge (by rw [hlsz]; decide)
      have HCM := Lib.hid hcm; clear hcm
      have hcs := ((BVY.out.after HCM.out.below).cells3)
      obtain ⟨d0, d1, d2⟩ := hcs
      have dl := (BVY.out.after HCM.out.below).lt
      refine GJ.wanted hj hdo hr rfl _ hdi rfl (j := 25) rfl rfl (c := true) gg rfl (fun K hK => ?_)
      clear gg
      simp only [Act.put, List.setIfInBounds_toArray] at hK ⊢; clear hj hf hdo hdi
      go_simp
      exact hK _ _ (fun k v _ _ h => h.keep (Below.refl _ _)) (fun t ht => SS.of (.eq (.agg #[.bool (fr false 0 1).neg, .slice pY1 (fr false 0 1).num.length cY1, .slice pY2 (fr false 0 1).den.length cY2])) rfl rfl) (HCM.out.keep (by decide) (fun _ _ h _ => h) (Below.refl _ _))
    · have gg := hj.got 25 _ _ rfl rfl (up_dep hr (by kernel_rfl))
      have nS : ¬ up listed 999 := not_up_ge (by rw [hlsz]; decide)
      have HCM := Lib.hid hcm; clear hcm
      refine GJ.wanted hj hdo hr rfl _ hdi rfl (j := 25) rfl rfl (c := true) gg rfl (fun K hK => ?_)
      clear gg
      simp only [Act.put, List.setIfInBounds_toArray] at hK ⊢; clear hj hf hdo hdi
      go_simp
      refine (of32_c _ 0 1 (by omega) (by omega) (by omega) (by omega)).mono ?_
      rw [of_01]
      rintro e w11 ⟨v11, rfl, hv, hb⟩
      exact hK _ _ (fun k v _ _ h => h.keep (hb)) (fun t ht => SS.of (kF (fr false 0 1)) rfl (fun _ => hv)) (HCM.out.keep (by decide) (fun _ _ h _ => h) (hb))
    · have gg := hj.got 25 _ _ rfl rfl (up_dep hr (by kernel_rfl))
      have nS : ¬ up listed 999 := not_up_ge (by rw [hlsz]; decide)
      have e1 : f 306 = .agg #[.bool (fr false 0 1).neg, .slice pY1 (fr false 0 1).num.length cY1, .slice pY2 (fr false 0 1).den.length cY2] := hf 26 _ _ rfl rfl (up_dep hr (by kernel_rfl))
      have s2 : IsF w9 (f 307) (fr false 0 1) := (hf 27 _ _ rfl rfl (up_dep hr (by kernel_rfl))) nS
      have HCM := Lib.hid hcm; clear hcm
      refine GJ.wanted hj hdo hr rfl _ hdi rfl (j := 25) rfl rfl (c := true) gg rfl (fun K hK => ?_)
      clear gg
      simp only [Act.put, List.setIfInBounds_toArray] at hK ⊢; clear hj hf hdo hdi
      rw [e1] at hK ⊢; clear e1
      go_simp
      refine (Same_c _ _ _ (fr false 0 1) (fr false 0 1) (HVY.out.after HCM.out.below) s2).mono ?_
      intro e w11 hr1
      obtain ⟨rfl, hb⟩ := hr1.yes rfl
      exact hK _ _ (fun k v _ _ h => h.keep (hb)) (fun t ht => SS.of (.eq (.bool true)) rfl rfl) (HCM.out.keep (by decide) (fun _ _ h _ => h) (hb))
    · have nS : ¬ up listed 999 := not_up_ge (by rw [hlsz]; decide)
      have e1 : f 305 = .bool true := hf 25 _ _ rfl rfl (up_dep hr (by kernel_rfl))
      have e2 : f 308 = .bool true := hf 28 _ _ rfl rfl (up_dep hr (by kernel_rfl))
      have HCM := Lib.hid hcm; clear hcm
      refine GJ.op hj hdo hr rfl _ hdi (fun K hK => ?_)
      simp only [Act.put, List.setIfInBounds_toArray] at hK ⊢; clear hj hf hdo hdi
      rw [e1, e2] at hK ⊢; clear e1 e2
      go_simp
      exact hK _ _ (fun k v _ _ h => h.keep (Below.refl _ _)) (fun t ht => SS.of (.eq (.bool true)) rfl rfl) (HCM.out.keep (by decide) (fun _ _ h _ => h) (Below.refl _ _))
    · have nS : ¬ up listed 999 := not_up_ge (by rw [hlsz]; decide)
      have e1 : f 309 = .bool true := hf 29 _ _ rfl rfl (up_dep hr (by kernel_rfl))
      have HCM := Lib.hid hcm; clear hcm
      refine GJ.op hj hdo hr rfl _ hdi (fun K hK => ?_)
      simp only [Act.put, List.setIfInBounds_toArray] at hK ⊢; clear hj hf hdo hdi
      rw [e1] at hK ⊢; clear e1
      go_simp
      exact hK _ _ (fun k v _ _ h => h.keep (Below.refl _ _)) (fun t ht => SS.of (.eq (.bool true)) rfl rfl) (HCM.out.keep (by decide) (fun _ _ h _ => h) (Below.refl _ _))
    · have gg := hj.got 30 _ _ rfl rfl (up_dep hr (by kernel_rfl))
      have nS : ¬ up listed 999 := not_up_ge (by rw [hlsz]; decide)
      have HCM := Lib.hid hcm; clear hcm
      refine GJ.wanted hj hdo hr rfl _ hdi rfl (j := 30) rfl rfl (c := true) gg rfl (fun K hK => ?_)
      clear gg
      simp only [Act.put, List.setIfInBounds_toArray] at hK ⊢; clear hj hf hdo hdi
      go_simp
      exact hK _ _ (fun k v _ _ h => h.keep (Below.refl _ _)) (fun t ht => SS.of (.eq (.int .i64 0)) rfl rfl) (HCM.out.keep (by decide) (fun _ _ h _ => h) (Below.refl _ _))
    · have gg := hj.got 30 _ _ rfl rfl (up_dep hr (by kernel_rfl))
      have nS : ¬ up listed 999 := not_up_ge (by rw [hlsz]; decide)
      have e1 : f 311 = .int .i64 0 := hf 31 _ _ rfl rfl (up_dep hr (by kernel_rfl))
      have HCM := Lib.hid hcm; clear hcm
      refine GJ.wanted hj hdo hr rfl _ hdi rfl (j := 30) rfl rfl (c := true) gg rfl (fun K hK => ?_)
      clear gg
      simp only [Act.put, List.setIfInBounds_toArray] at hK ⊢; clear hj hf hdo hdi
      rw [e1] at hK ⊢; clear e1
      go_simp
      exact hK _ _ (fun k v _ _ h => h.keep (Below.refl _ _)) (fun t ht => SS.of (.eq (.bool true)) rfl rfl) (HCM.out.keep (by decide) (fun _ _ h _ => h) (Below.refl _ _))
    · have nS : ¬ up listed 999 := not_up_ge (by rw [hlsz]; decide)
      have e1 : f 310 = .bool true := hf 30 _ _ rfl rfl (up_dep hr (by kernel_rfl))
      have e2 : f 312 = .bool true := hf 32 _ _ rfl rfl (up_dep hr (by kernel_rfl))
      have HCM := Lib.hid hcm; clear hcm
      refine GJ.op hj hdo hr rfl _ hdi (fun K hK => ?_)
      simp only [Act.put, List.setIfInBounds_toArray] at hK ⊢; clear hj hf hdo hdi
      rw [e1, e2] at hK ⊢; clear e1 e2
      go_simp
      exact hK _ _ (fun k v _ _ h => h.keep (Below.refl _ _)) (fun t ht => SS.of (.eq (.bool true)) rfl rfl) (HCM.out.keep (by decide) (fun _ _ h _ => h) (Below.refl _ _))
    · have nS : ¬ up listed 999 := not_up_ge (by rw [hlsz]; decide)
      have e1 : f 313 = .bool true := hf 33 _ _ rfl rfl (up_dep hr (by kernel_rfl))
      have HCM := Lib.hid hcm; clear hcm
      refine GJ.op hj hdo hr rfl _ hdi (fun K hK => ?_)
      simp only [Act.put, List.setIfInBounds_toArray] at hK ⊢; clear hj hf hdo hdi
      rw [e1] at hK ⊢; clear e1
      go_simp
      exact hK _ _ (fun k v _ _ h => h.keep (Below.refl _ _)) (fun t ht => SS.of (.eq (.bool true)) rfl rfl) (HCM.out.keep (by decide) (fun _ _ h _ => h) (Below.refl _ _))
    · have gg := hj.got 34 _ _ rfl rfl (up_dep hr (by kernel_rfl))
      have nS : ¬ up listed 999 := not_up_ge (by rw [hlsz]; decide)
      have HCM := Lib.hid hcm; clear hcm
      refine GJ.wanted hj hdo hr rfl _ hdi rfl (j := 34) rfl rfl (c := true) gg rfl (fun K hK => ?_)
      clear gg
      simp only [Act.put, List.setIfInBounds_toArray] at hK ⊢; clear hj hf hdo hdi
      go_simp
      exact hK _ _ (fun k v _ _ h => h.keep (Below.refl _ _)) (fun t ht => SS.of (.eq (.slice pSC [0, 0].length cSC)) rfl rfl) (HCM.out.keep (by decide) (fun _ _ h _ => h) (Below.refl _ _))
    · have gg := hj.got 34 _ _ rfl rfl (up_dep hr (by kernel_rfl))
      have nS : ¬ up listed 999 := not_up_ge (by rw [hlsz]; decide)
      have HCM := Lib.hid hcm; clear hcm
      refine GJ.wanted hj hdo hr rfl _ hdi rfl (j := 34) rfl rfl (c := true) gg rfl (fun K hK => ?_)
      clear gg
      simp only [Act.put, List.setIfInBounds_toArray] at hK ⊢; clear hj hf hdo hdi
      go_simp
      exact hK _ _ (fun k v _ _ h => h.keep (held_alloc (Below.refl _ _))) (fun t ht => SS.of (kI ([0, 0])) rfl (fun _ => SlI.lit (l := [0, 0]) (Box.new _ _ _) rfl (in_lit _ (by decide)) (by decide))) (HCM.out.keep (by decide) (fun _ _ h _ => h) (held_alloc (Below.refl _ _)))
    · have gg := hj.got 34 _ _ rfl rfl (up_dep hr (by kernel_rfl))
      have nS : ¬ up listed 999 := not_up_ge (by rw [hlsz]; decide)
      have e1 : f 315 = .slice pSC [0, 0].length cSC := hf 35 _ _ rfl rfl (up_dep hr (by kernel_rfl))
      have s2 : SlI w9 (f 316) ([0, 0]) := (hf 36 _ _ rfl rfl (up_dep hr (by kernel_rfl))) nS
      have HCM := Lib.hid hcm; clear hcm
      refine GJ.wanted hj hdo hr rfl _ hdi rfl (j := 34) rfl rfl (c := true) gg rfl (fun K hK => ?_)
      clear gg
      simp only [Act.put, List.setIfInBounds_toArray] at hK ⊢; clear hj hf hdo hdi
      rw [e1] at hK ⊢; clear e1
      go_simp
      refine (equal_i _ _ _ [0, 0] [0, 0] (SC.out.after HCM.out.below) s2).mono ?_
      intro e w11 hr1
      obtain ⟨rfl, n11, rfl⟩ := hr1.yes rfl
      exact hK _ _ (fun k v _ _ h => h.keep (below_drewN w9 n11 _)) (fun t ht => SS.of (.eq (.bool true)) rfl rfl) (HCM.out.keep (by decide) (fun _ _ h _ => h) (below_drewN w9 n11 _))
    · have nS : ¬ up listed 999 := not_up_ge (by rw [hlsz]; decide)
      have e1 : f 314 = .bool true := hf 34 _ _ rfl rfl (up_dep hr (by kernel_rfl))
      have e2 : f 317 = .bool true := hf 37 _ _ rfl rfl (up_dep hr (by kernel_rfl))
      have HCM := Lib.hid hcm; clear hcm
      refine GJ.op hj hdo hr rfl _ hdi (fun K hK => ?_)
      simp only [Act.put, List.setIfInBounds_toArray] at hK ⊢; clear hj hf hdo hdi
      rw [e1, e2] at hK ⊢; clear e1 e2
      go_simp
      exact hK _ _ (fun k v _ _ h => h.keep (Below.refl _ _)) (fun t ht => SS.of (.eq (.bool true)) rfl rfl) (HCM.out.keep (by decide) (fun _ _ h _ => h) (Below.refl _ _))
    · have nS : ¬ up listed 999 := not_up_ge (by rw [hlsz]; decide)
      have e1 : f 318 = .bool true := hf 38 _ _ rfl rfl (up_dep hr (by kernel_rfl))
      have HCM := Lib.hid hcm; clear hcm
      refine GJ.op hj hdo hr rfl _ hdi (fun K hK => ?_)
      simp only [Act.put, List.setIfInBounds_toArray] at hK ⊢; clear hj hf hdo hdi
      rw [e1] at hK ⊢; clear e1
      go_simp
      exact hK _ _ (fun k v _ _ h => h.keep (Below.refl _ _)) (fun t ht => SS.of (.eq (.bool true)) rfl rfl) (HCM.out.keep (by decide) (fun _ _ h _ => h) (Below.refl _ _))
    · have gg := hj.got 39 _ _ rfl rfl (up_dep hr (by kernel_rfl))
      have nS : ¬ up listed 999 := not_up_ge (by rw [hlsz]; decide)
      have HCM := Lib.hid hcm; clear hcm
      refine GJ.wanted hj hdo hr rfl _ hdi rfl (j := 39) rfl rfl (c := true) gg rfl (fun K hK => ?_)
      clear gg
      simp only [Act.put, List.setIfInBounds_toArray] at hK ⊢; clear hj hf hdo hdi
      go_simp
      exact hK _ _ (fun k v _ _ h => h.keep (Below.refl _ _)) (fun t ht => SS.of (.eq (.int .i64 0)) rfl rfl) (HCM.out.keep (by decide) (fun _ _ h _ => h) (Below.refl _ _))
    · have gg := hj.got 39 _ _ rfl rfl (up_dep hr (by kernel_rfl))
      have nS : ¬ up listed 999 := not_up_ge (by rw [hlsz]; decide)
      have e1 : f 320 = .int .i64 0 := hf 40 _ _ rfl rfl (up_dep hr (by kernel_rfl))
      have HCM := Lib.hid hcm; clear hcm
      refine GJ.wanted hj hdo hr rfl _ hdi rfl (j := 39) rfl rfl (c := true) gg rfl (fun K hK => ?_)
      clear gg
      simp only [Act.put, List.setIfInBounds_toArray] at hK ⊢; clear hj hf hdo hdi
      rw [e1] at hK ⊢; clear e1
      go_simp
      exact hK _ _ (fun k v _ _ h => h.keep (Below.refl _ _)) (fun t ht => SS.of (.eq (.bool true)) rfl rfl) (HCM.out.keep (by decide) (fun _ _ h _ => h) (Below.refl _ _))
    · have nS : ¬ up listed 999 := not_up_ge (by rw [hlsz]; decide)
      have e1 : f 319 = .bool true := hf 39 _ _ rfl rfl (up_dep hr (by kernel_rfl))
      have e2 : f 321 = .bool true := hf 41 _ _ rfl rfl (up_dep hr (by kernel_rfl))
      have HCM := Lib.hid hcm; clear hcm
      refine GJ.op hj hdo hr rfl _ hdi (fun K hK => ?_)
      simp only [Act.put, List.setIfInBounds_toArray] at hK ⊢; clear hj hf hdo hdi
      rw [e1, e2] at hK ⊢; clear e1 e2
      go_simp
      exact hK _ _ (fun k v _ _ h => h.keep (Below.refl _ _)) (fun t ht => SS.of (.eq (.bool true)) rfl rfl) (HCM.out.keep (by decide) (fun _ _ h _ => h) (Below.refl _ _))
    · have nS : ¬ up listed 999 := not_up_ge (by rw [hlsz]; decide)
      have e1 : f 322 = .bool true := hf 42 _ _ rfl rfl (up_dep hr (by kernel_rfl))
      have HCM := Lib.hid hcm; clear hcm
      refine GJ.op hj hdo hr rfl _ hdi (fun K hK => ?_)
      simp only [Act.put, List.setIfInBounds_toArray] at hK ⊢; clear hj hf hdo hdi
      rw [e1] at hK ⊢; clear e1
      go_simp
      exact hK _ _ (fun k v _ _ h => h.keep (Below.refl _ _)) (fun t ht => SS.of (.eq (.bool true)) rfl rfl) (HCM.out.keep (by decide) (fun _ _ h _ => h) (Below.refl _ _))
    · have gg := hj.got 43 _ _ rfl rfl (up_dep hr (by kernel_rfl))
      have nS : ¬ up listed 999 := not_up_ge (by rw [hlsz]; decide)
      have HCM := Lib.hid hcm; clear hcm
      refine GJ.wanted hj hdo hr rfl _ hdi rfl (j := 43) rfl rfl (c := true) gg rfl (fun K hK => ?_)
      clear gg
      simp only [Act.put, List.setIfInBounds_toArray] at hK ⊢; clear hj hf hdo hdi
      go_simp
      refine (works32_c _).mono ?_
      rintro e w11 ⟨rfl, hb⟩
      exact hK _ _ (fun k v _ _ h => h.keep (hb)) (fun t ht => SS.of (.eq (.bool true)) rfl rfl) (HCM.out.keep (by decide) (fun _ _ h _ => h) (hb))
    · have nS : ¬ up listed 999 := not_up_ge (by rw [hlsz]; decide)
      have e1 : f 323 = .bool true := hf 43 _ _ rfl rfl (up_dep hr (by kernel_rfl))
      have e2 : f 324 = .bool true := hf 44 _ _ rfl rfl (up_dep hr (by kernel_rfl))
      have HCM := Lib.hid hcm; clear hcm
      refine GJ.op hj hdo hr rfl _ hdi (fun K hK => ?_)
      simp only [Act.put, List.setIfInBounds_toArray] at hK ⊢; clear hj hf hdo hdi
      rw [e1, e2] at hK ⊢; clear e1 e2
      go_simp
      exact hK _ _ (fun k v _ _ h => h.keep (Below.refl _ _)) (fun t ht => SS.of (.eq (.bool true)) rfl rfl) (HCM.out.keep (by decide) (fun _ _ h _ => h) (Below.refl _ _))
    · have nS : ¬ up listed 999 := not_up_ge (by rw [hlsz]; decide)
      have e1 : f 325 = .bool true := hf 45 _ _ rfl rfl (up_dep hr (by kernel_rfl))
      have HCM := Lib.hid hcm; clear hcm
      refine GJ.op hj hdo hr rfl _ hdi (fun K hK => ?_)
      simp only [Act.put, List.setIfInBounds_toArray] at hK ⊢; clear hj hf hdo hdi
      rw [e1] at hK ⊢; clear e1
      go_simp
      exact hK _ _ (fun k v _ _ h => h.keep (Below.refl _ _)) (fun t ht => SS.of (.eq (.bool true)) rfl rfl) (HCM.out.keep (by decide) (fun _ _ h _ => h) (Below.refl _ _))
  · intro listed a w10 hr hj
    have hu : ∀ k, k < 47 → up listed k := fun k hk => all_up (by kernel_rfl) hj.lsize hr k hk
    have hlsz : listed.size = 47 := hj.lsize
    obtain ⟨f, ha, hcm, hf, hdo, hdi⟩ := hj.open2 [280, 281, 282, 283, 284, 285, 286, 287, 288, 289, 290, 291, 292, 293, 294, 295, 296, 297, 298, 299, 300, 301, 302, 303, 304, 305, 306, 307, 308, 309, 310, 311, 312, 313, 314, 315, 316, 317, 318, 319, 320, 321, 322, 323, 324, 325, 0] (by kernel_rfl) (by kernel_rfl)
    simp only [List.foldl_cons, List.foldl_nil, List.setIfInBounds_toArray, List.set_cons_zero, List.set_cons_succ] at ha
    subst ha
    replace hcm : CS w0 999 (fun _ => True) listed f w10 := hcm
    have E46 : f 0 = .bool true := hf 46 _ _ rfl rfl (hu 46 (by omega))
    have HBR := hcm.below
    clear hf hj hr hu hcm hlsz hdo hdi
    rw [E46]
    clear E46
    generalize f 280 = g280
    generalize f 281 = g281
    generalize f 282 = g282
    generalize f 283 = g283
    generalize f 284 = g284
    generalize f 285 = g285
    generalize f 286 = g286
    generalize f 287 = g287
    generalize f 288 = g288
    generalize f 289 = g289
    generalize f 290 = g290
    generalize f 291 = g291
    generalize f 292 = g292
    generalize f 293 = g293
    generalize f 294 = g294
    generalize f 295 = g295
    generalize f 296 = g296
    generalize f 297 = g297
    generalize f 298 = g298
    generalize f 299 = g299
    generalize f 300 = g300
    generalize f 301 = g301
    generalize f 302 = g302
    generalize f 303 = g303
    generalize f 304 = g304
    generalize f 305 = g305
    generalize f 306 = g306
    generalize f 307 = g307
    generalize f 308 = g308
    generalize f 309 = g309
    generalize f 310 = g310
    generalize f 311 = g311
    generalize f 312 = g312
    generalize f 313 = g313
    generalize f 314 = g314
    generalize f 315 = g315
    generalize f 316 = g316
    generalize f 317 = g317
    generalize f 318 = g318
    generalize f 319 = g319
    generalize f 320 = g320
    generalize f 321 = g321
    generalize f 322 = g322
    generalize f 323 = g323
    generalize f 324 = g324
    generalize f 325 = g325
    exact hQ.out _ _ _ _ _ _ _ _ _ _ _ _ _ _ _ _ _ _ _ _ _ _ _ _ _ _ _ _ _ _ _ _ _ _ _ _ _ _ _ _ _ _ _ _ _ _ _ HBR
end Go.Proofs.Ytebmegodeglobaa

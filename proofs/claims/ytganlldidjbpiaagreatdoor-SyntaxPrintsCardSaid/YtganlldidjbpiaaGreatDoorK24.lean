/- Syntax, the reference: Same, the two clauses laid in variables.
   Syntax, the reference: Same. -/
import Derived.Test.YtganlldidjbpiaaGreatDoorK19
import Derived.Test.YtganlldidjbpiaaGreatDoorK16
set_option linter.unusedVariables false
namespace Go.Proofs.YtganlldidjbpiaaGreatDoor
open Go.RowKit Go.Shelf

theorem up_oth {listed : Array Bool} {i k : Nat} (hne : k ≠ i) : up (listed.setIfInBounds i true) k ↔ up listed k := ⟨fun h => up_set h hne, up_keep⟩
/-- A variable of one clause: made by operation iA (v points to it), filled by operation iS. -/
def Vr (W0 : World) (iA iS : Nat) (z n : Array Value) (l : Array Bool) (v : Value) (w : World) : Prop :=
  up l iA → ∃ b, v = .pointer (some ⟨b, 0, none⟩) ∧ W0.heap.size ≤ b ∧ (¬ up l iS → Box w b z 43) ∧ (up l iS → Box w b n 43)
section
variable {W0 w w' : World} {iA iS i : Nat} {z n : Array Value} {l : Array Bool} {v : Value}
theorem Vr.keep (h : Vr W0 iA iS z n l v w) (hA : iA ≠ i) (hS : iS ≠ i) (hb : Below w.heap.size w w') : Vr W0 iA iS z n (l.setIfInBounds i true) v w' := by
  intro u
  rw [up_oth hA] at u
  obtain ⟨b, e, hB, h1, h2⟩ := h u
  refine ⟨b, e, hB, fun u => ?_, fun u => ?_⟩
  · rw [up_oth hS] at u; exact (h1 u).after hb
  · rw [up_oth hS] at u; exact (h2 u).after hb
theorem Vr.at_ {p : Nat} (h : Vr W0 iA iS z n l (.pointer (some ⟨p, 0, none⟩)) w) (u : up l iA) (nS : ¬ up l iS) : Box w p z 43 := by
  obtain ⟨b, e, _, h1, _⟩ := h u
  injection e with e
  injection e with e
  injection e with e _ _
  subst e
  exact h1 nS
/-- A store into another block. -/
theorem Vr.fx {S : Nat → Prop} (h : Vr W0 iA iS z n l v w) (hA : iA ≠ i) (hS : iS ≠ i) (hf : Fx S w w') (hn : ∀ b, up l iA → v = .pointer (some ⟨b, 0, none⟩) → ¬ S b) : Vr W0 iA iS z n (l.setIfInBounds i true) v w' := by
  intro u
  rw [up_oth hA] at u
  obtain ⟨b, e, hB, h1, h2⟩ := h u
  refine ⟨b, e, hB, fun u' => ?_, fun u' => ?_⟩
  · rw [up_oth hS] at u'; exact (h1 u').fx hf (hn b u e)
  · rw [up_oth hS] at u'; exact (h2 u').fx hf (hn b u e)
end
/-- Two variables: made by the operations 8 and 9 (their pointers in the temporaries 6, 7), filled by 10 and 11. -/
def C6 (W0 : World) (z nx ny : Array Value) (l : Array Bool) (f : Nat → Value) (w : World) : Prop :=
  Below W0.heap.size W0 w ∧ Vr W0 8 10 z nx l (f 6) w ∧ Vr W0 9 11 z ny l (f 7) w ∧ (up l 8 → up l 9 → f 6 ≠ f 7)
section
variable {W0 w w' : World} {i : Nat} {z nx ny : Array Value} {l : Array Bool} {f g : Nat → Value}
theorem C6.start {k : Nat} : C6 W0 z nx ny (Array.replicate k false) f W0.drew :=
  ⟨below_dr (Below.refl _ _), fun h => absurd h (up_none _ _), fun h => absurd h (up_none _ _), fun h => absurd h (up_none _ _)⟩
theorem C6.keep (h : C6 W0 z nx ny l f w) (h8 : 8 ≠ i) (h9 : 9 ≠ i) (h10 : 10 ≠ i) (h11 : 11 ≠ i) (e6 : g 6 = f 6) (e7 : g 7 = f 7) (hb : Below w.heap.size w w') : C6 W0 z nx ny (l.setIfInBounds i true) g w' := by
  obtain ⟨h1, h2, h3, h4⟩ := h
  refine ⟨h1.trans (hb.mono h1.size), ?_, ?_, ?_⟩
  · rw [e6]; exact h2.keep h8 h10 hb
  · rw [e7]; exact h3.keep h9 h11 hb
  · rw [e6, e7, up_oth h8, up_oth h9]; exact h4
theorem C6.alloca (h : C6 W0 z nx ny l f w) (nS : ¬ up l 10) (e6 : g 6 = .pointer (some ⟨w.heap.size, 0, none⟩)) (e7 : g 7 = f 7) : C6 W0 z nx ny (l.setIfInBounds 8 true) g (w.alloc (.cells z 43)) := by
  obtain ⟨h1, h2, h3, h4⟩ := h
  have hb : Below w.heap.size w (w.alloc (.cells z 43)) := held_alloc (Below.refl _ _)
  refine ⟨h1.trans (hb.mono h1.size), fun _ => ⟨w.heap.size, e6, h1.size, fun _ => Box.new _ _ _, fun u => absurd (up_set u (by decide)) nS⟩, ?_, fun _ u e => ?_⟩
  · rw [e7]; exact h3.keep (by decide) (by decide) hb
  · rw [up_oth (by decide)] at u
    obtain ⟨b, eb, _, k1, k2⟩ := h3 u
    rw [e6, e7, eb] at e
    injection e with e
    injection e with e
    injection e with e _ _
    subst e
    by_cases u2 : up l 11
    · exact absurd (k2 u2).lt (Nat.lt_irrefl _)
    · exact absurd (k1 u2).lt (Nat.lt_irrefl _)
theorem C6.allocb (h : C6 W0 z nx ny l f w) (nS : ¬ up l 11) (e7 : g 7 = .pointer (some ⟨w.heap.size, 0, none⟩)) (e6 : g 6 = f 6) : C6 W0 z nx ny (l.setIfInBounds 9 true) g (w.alloc (.cells z 43)) := by
  obtain ⟨h1, h2, h3, h4⟩ := h
  have hb : Below w.heap.size w (w.alloc (.cells z 43)) := held_alloc (Below.refl _ _)
  refine ⟨h1.trans (hb.mono h1.size), ?_, fun _ => ⟨w.heap.size, e7, h1.size, fun _ => Box.new _ _ _, fun u => absurd (up_set u (by decide)) nS⟩, fun u _ e => ?_⟩
  · rw [e6]; exact h2.keep (by decide) (by decide) hb
  · rw [up_oth (by decide)] at u
    obtain ⟨b, eb, _, k1, k2⟩ := h2 u
    rw [e6, e7, eb] at e
    injection e with e
    injection e with e
    injection e with e _ _
    subst e
    by_cases u2 : up l 10
    · exact absurd (k2 u2).lt (Nat.lt_irrefl _)
    · exact absurd (k1 u2).lt (Nat.lt_irrefl _)
theorem C6.puta {p : Nat} {z0 z1 z2 z3 z4 z5 z6 z7 a0 a1 a2 a3 a4 a5 a6 a7 : Value} (h : C6 W0 #[z0, z1, z2, z3, z4, z5, z6, z7] #[a0, a1, a2, a3, a4, a5, a6, a7] ny l f w) (hl : 10 < l.size) (uV : up l 8) (nS : ¬ up l 10) (nB : ¬ up l 11) (ev : f 6 = .pointer (some ⟨p, 0, none⟩)) (hB : W0.heap.size ≤ p)
    (hbx : Box w p #[z0, z1, z2, z3, z4, z5, z6, z7] 43) (e6 : g 6 = .pointer (some ⟨p, 0, none⟩)) (e7 : g 7 = f 7) :
    C6 W0 #[z0, z1, z2, z3, z4, z5, z6, z7] #[a0, a1, a2, a3, a4, a5, a6, a7] ny (l.setIfInBounds 10 true) g ((((((((w.setCell ⟨p, 0, none⟩ a0).setCell ⟨p, 1, none⟩ a1).setCell ⟨p, 2, none⟩ a2).setCell ⟨p, 3, none⟩ a3).setCell ⟨p, 4, none⟩ a4).setCell ⟨p, 5, none⟩ a5).setCell ⟨p, 6, none⟩ a6).setCell ⟨p, 7, none⟩ a7) := by
  have hf := fx_set8 w p 0 a0 a1 a2 a3 a4 a5 a6 a7
  have hx := end8 hbx a0 a1 a2 a3 a4 a5 a6 a7
  obtain ⟨h1, h2, h3, h4⟩ := h
  refine ⟨hB_new h1 hf hB, fun _ => ⟨p, e6, hB, fun u => absurd (up_self hl) u, fun _ => hx⟩, ?_, ?_⟩
  · rw [e7]
    refine h3.fx (by decide) (by decide) hf (fun b u eb hb => ?_)
    subst hb
    exact h4 uV u (by rw [ev, eb])
  · rw [e6, e7, up_oth (by decide), up_oth (by decide), ← ev]; exact h4
theorem C6.putb {p : Nat} {z0 z1 z2 z3 z4 z5 z6 z7 a0 a1 a2 a3 a4 a5 a6 a7 : Value} (h : C6 W0 #[z0, z1, z2, z3, z4, z5, z6, z7] nx #[a0, a1, a2, a3, a4, a5, a6, a7] l f w) (hl : 11 < l.size) (uA : up l 8) (uV : up l 9) (uS : up l 10) (nS : ¬ up l 11) (ev : f 7 = .pointer (some ⟨p, 0, none⟩)) (hB : W0.heap.size ≤ p)
    (hbx : Box w p #[z0, z1, z2, z3, z4, z5, z6, z7] 43) (e7 : g 7 = .pointer (some ⟨p, 0, none⟩)) (e6 : g 6 = f 6) :
    C6 W0 #[z0, z1, z2, z3, z4, z5, z6, z7] nx #[a0, a1, a2, a3, a4, a5, a6, a7] (l.setIfInBounds 11 true) g ((((((((w.setCell ⟨p, 0, none⟩ a0).setCell ⟨p, 1, none⟩ a1).setCell ⟨p, 2, none⟩ a2).setCell ⟨p, 3, none⟩ a3).setCell ⟨p, 4, none⟩ a4).setCell ⟨p, 5, none⟩ a5).setCell ⟨p, 6, none⟩ a6).setCell ⟨p, 7, none⟩ a7) := by
  have hf := fx_set8 w p 0 a0 a1 a2 a3 a4 a5 a6 a7
  have hx := end8 hbx a0 a1 a2 a3 a4 a5 a6 a7
  obtain ⟨h1, h2, h3, h4⟩ := h
  refine ⟨hB_new h1 hf hB, ?_, fun _ => ⟨p, e7, hB, fun u => absurd (up_self hl) u, fun _ => hx⟩, ?_⟩
  · rw [e6]
    refine h2.fx (by decide) (by decide) hf (fun b u eb hb => ?_)
    subst hb
    exact h4 u uV (by rw [ev, eb])
  · rw [e6, e7, up_oth (by decide), up_oth (by decide), ← ev]; exact h4
end

set_option maxRecDepth 100000 in
set_option maxHeartbeats 8000000 in
theorem rsame_r6 (ops : Array Oper) (hops : (Tryz.f20.body.bind (regOf 6)) = some ops) {ba oa bb ob n m ca cb i cn ci cm cj : Nat} {qn qi qm qj : Option Addr} {c d : Cl} {wr : World} {Q : Exit → Act → World → Prop} {x2 x3 x4 x6 x7 x8 x9 x10 x11 x12 x13 x14 x15 x16 x17 x18 x19 x20 x21 x22 x23 x24 x25 x26 x27 x28 x29 x30 x31 x32 x33 x34 x35 x36 x37 x38 x39 x40 x41 x42 x43 x44 x45 x46 x47 x48 x49 x50 x51 x52 x53 x54 x55 x56 x57 x58 x59 x60 x61 x62 x63 x64 x65 x66 x67 x68 x69 x70 x71 x72 x73 x74 x75 x76 x77 x78 x79 x80 x81 x82 x83 x84 x85 x86 x87 x88 x89 x90 x91 x92 x93 x94 x95 : Value} (hi : i < n) (hi2 : i < m) (hx0 : wr.cell? ⟨ba, oa + i * 8, none⟩ = some (.int .u8 (c.kind : Int))) (hx1 : wr.cell? ⟨ba, oa + i * 8 + 1, none⟩ = some (.slice qn c.names.length cn)) (hx2 : wr.cell? ⟨ba, oa + i * 8 + 2, none⟩ = some (.int .u8 (c.dom : Int))) (hx3 : wr.cell? ⟨ba, oa + i * 8 + 3, none⟩ = some (.int .i64 c.idx)) (hx4 : wr.cell? ⟨ba, oa + i * 8 + 4, none⟩ = some (.int .i64 c.a)) (hx5 : wr.cell? ⟨ba, oa + i * 8 + 5, none⟩ = some (.int .i64 c.b)) (hx6 : wr.cell? ⟨ba, oa + i * 8 + 6, none⟩ = some (.slice qi c.items.length ci)) (hx7 : wr.cell? ⟨ba, oa + i * 8 + 7, none⟩ = some (.int .i64 c.off)) (hy0 : wr.cell? ⟨bb, ob + i * 8, none⟩ = some (.int .u8 (d.kind : Int))) (hy1 : wr.cell? ⟨bb, ob + i * 8 + 1, none⟩ = some (.slice qm d.names.length cm)) (hy2 : wr.cell? ⟨bb, ob + i * 8 + 2, none⟩ = some (.int .u8 (d.dom : Int))) (hy3 : wr.cell? ⟨bb, ob + i * 8 + 3, none⟩ = some (.int .i64 d.idx)) (hy4 : wr.cell? ⟨bb, ob + i * 8 + 4, none⟩ = some (.int .i64 d.a)) (hy5 : wr.cell? ⟨bb, ob + i * 8 + 5, none⟩ = some (.int .i64 d.b)) (hy6 : wr.cell? ⟨bb, ob + i * 8 + 6, none⟩ = some (.slice qj d.items.length cj)) (hy7 : wr.cell? ⟨bb, ob + i * 8 + 7, none⟩ = some (.int .i64 d.off))
    (hQ : ∀ (W : World) (P R : Nat) (y20 y21 y22 y23 y24 y25 y26 y27 : Value), wr.heap.size ≤ P → wr.heap.size ≤ R → P ≠ R → Box W P #[.int .u8 (c.kind : Int), .slice qn c.names.length cn, .int .u8 (c.dom : Int), .int .i64 c.idx, .int .i64 c.a, .int .i64 c.b, .slice qi c.items.length ci, .int .i64 c.off] 43 → Box W R #[.int .u8 (d.kind : Int), .slice qm d.names.length cm, .int .u8 (d.dom : Int), .int .i64 d.idx, .int .i64 d.a, .int .i64 d.b, .slice qj d.items.length cj, .int .i64 d.off] 43 → Below wr.heap.size wr W → Q .normal ⟨[.slice (some ⟨ba, oa, none⟩) n ca, .slice (some ⟨bb, ob, none⟩) m cb, x2, x3, x4, .int .i64 (i : Int), .pointer (some ⟨P, 0, none⟩), .pointer (some ⟨R, 0, none⟩), x8, x9, x10, x11, x12, x13, x14, x15, x16, x17, x18, x19, y20, y21, y22, y23, y24, y25, y26, y27, x28, x29, x30, x31, x32, x33, x34, x35, x36, x37, x38, x39, x40, x41, x42, x43, x44, x45, x46, x47, x48, x49, x50, x51, x52, x53, x54, x55, x56, x57, x58, x59, x60, x61, x62, x63, x64, x65, x66, x67, x68, x69, x70, x71, x72, x73, x74, x75, x76, x77, x78, x79, x80, x81, x82, x83, x84, x85, x86, x87, x88, x89, x90, x91, x92, x93, x94, x95].toArray, []⟩ W) :
    (Code.region 6 ops true).wp Tryz.prog Q ⟨[.slice (some ⟨ba, oa, none⟩) n ca, .slice (some ⟨bb, ob, none⟩) m cb, x2, x3, x4, .int .i64 (i : Int), x6, x7, x8, x9, x10, x11, x12, x13, x14, x15, x16, x17, x18, x19, x20, x21, x22, x23, x24, x25, x26, x27, x28, x29, x30, x31, x32, x33, x34, x35, x36, x37, x38, x39, x40, x41, x42, x43, x44, x45, x46, x47, x48, x49, x50, x51, x52, x53, x54, x55, x56, x57, x58, x59, x60, x61, x62, x63, x64, x65, x66, x67, x68, x69, x70, x71, x72, x73, x74, x75, x76, x77, x78, x79, x80, x81, x82, x83, x84, x85, x86, x87, x88, x89, x90, x91, x92, x93, x94, x95].toArray, []⟩ wr := by
  simp only [Tryz.f20, Option.bind_some, regOf] at hops
  replace hops := Option.some.inj hops
  subst hops
  replace hQ := Lib.hid hQ
  have Q1 : Hid ((i : Int) < (n : Int)) := by show _ < _; omega
  have Q2 : Hid (decide ((n : Int) ≤ (i : Int)) = false) := decide_eq_false (by omega)
  have Q3 : Hid ((0 : Int) ≤ (i : Int)) := by show _ ≤ _; omega
  have Q4 : Hid ((i : Int) < (m : Int)) := by show _ < _; omega
  refine wp_region_gj (J := GJ _ (SKS (S := (fun b => wr.heap.size ≤ b)) (fun κ => match κ with | 0 => KS.eq (.slice (some ⟨ba, oa, none⟩) n ca) | 1 => KS.eq (.int .i64 (i : Int)) | 2 => KS.eq (.pointer (some ⟨ba, oa + i * 8, none⟩)) | 3 => KS.eq (.agg #[.int .u8 (c.kind : Int), .slice qn c.names.length cn, .int .u8 (c.dom : Int), .int .i64 c.idx, .int .i64 c.a, .int .i64 c.b, .slice qi c.items.length ci, .int .i64 c.off]) | 4 => KS.eq (.slice (some ⟨bb, ob, none⟩) m cb) | 5 => KS.eq (.int .i64 (i : Int)) | 6 => KS.eq (.pointer (some ⟨bb, ob + i * 8, none⟩)) | 7 => KS.eq (.agg #[.int .u8 (d.kind : Int), .slice qm d.names.length cm, .int .u8 (d.dom : Int), .int .i64 d.idx, .int .i64 d.a, .int .i64 d.b, .slice qj d.items.length cj, .int .i64 d.off]) | 8 => KS.any | 9 => KS.any | 10 => KS.any | 11 => KS.any | _ => KS.any)) (C6 wr #[.int .u8 0, .slice none 0 0, .int .u8 0, .int .i64 0, .int .i64 0, .int .i64 0, .slice none 0 0, .int .i64 0] #[.int .u8 (c.kind : Int), .slice qn c.names.length cn, .int .u8 (c.dom : Int), .int .i64 c.idx, .int .i64 c.a, .int .i64 c.b, .slice qi c.items.length ci, .int .i64 c.off] #[.int .u8 (d.kind : Int), .slice qm d.names.length cm, .int .u8 (d.dom : Int), .int .i64 d.idx, .int .i64 d.a, .int .i64 d.b, .slice qj d.items.length cj, .int .i64 d.off]) _) (by kernel_rfl) ?_ ?_ (GJ.start C6.start)
  · intro listed a w9 i hr hj
    obtain ⟨hi12, hun, _, _, _⟩ := ready_mem hr
    have h12 : i ∈ List.range 12 := List.mem_range.2 hi12
    simp only [List.range, List.range.loop, List.mem_cons, List.not_mem_nil, or_false] at h12
    obtain ⟨f, hae, hcm, hf⟩ := hj.opened [20, 21, 22, 23, 24, 25, 26, 27, 6, 7] (by kernel_rfl)
    simp only [List.foldl_cons, List.foldl_nil, List.setIfInBounds_toArray, List.set_cons_zero, List.set_cons_succ] at hae
    subst hae
    replace hcm : C6 wr #[.int .u8 0, .slice none 0 0, .int .u8 0, .int .i64 0, .int .i64 0, .int .i64 0, .slice none 0 0, .int .i64 0] #[.int .u8 (c.kind : Int), .slice qn c.names.length cn, .int .u8 (c.dom : Int), .int .i64 c.idx, .int .i64 c.a, .int .i64 c.b, .slice qi c.items.length ci, .int .i64 c.off] #[.int .u8 (d.kind : Int), .slice qm d.names.length cm, .int .u8 (d.dom : Int), .int .i64 d.idx, .int .i64 d.a, .int .i64 d.b, .slice qj d.items.length cj, .int .i64 d.off] listed f w9 := hcm
    have hlsz : listed.size = 12 := hj.lsize
    rcases h12 with rfl | rfl | rfl | rfl | rfl | rfl | rfl | rfl | rfl | rfl | rfl | rfl
    · refine GJ.op hj (by kernel_rfl) hr rfl [20, 21, 22, 23, 24, 25, 26, 27, 6, 7] (by kernel_rfl) (fun K hK => ?_)
      simp only [Act.put, List.setIfInBounds_toArray] at hK ⊢
      clear hj hf
      go_simp
      exact hK _ _ (fun k v _ _ h => h) (fun t ht => rfl) (hcm.keep (by decide) (by decide) (by decide) (by decide) rfl rfl (Below.refl _ _))
    · refine GJ.op hj (by kernel_rfl) hr rfl [20, 21, 22, 23, 24, 25, 26, 27, 6, 7] (by kernel_rfl) (fun K hK => ?_)
      simp only [Act.put, List.setIfInBounds_toArray] at hK ⊢
      clear hj hf
      go_simp
      exact hK _ _ (fun k v _ _ h => h) (fun t ht => rfl) (hcm.keep (by decide) (by decide) (by decide) (by decide) rfl rfl (Below.refl _ _))
    · have e1 : f 20 = .slice (some ⟨ba, oa, none⟩) n ca := hf 0 _ _ rfl rfl (up_dep hr (by kernel_rfl))
      have e2 : f 21 = .int .i64 (i : Int) := hf 1 _ _ rfl rfl (up_dep hr (by kernel_rfl))
      have q1 := Q1.out
      have q2 := Q2.out
      have q3 := Q3.out
      have q4 := Q4.out
      refine GJ.op hj (by kernel_rfl) hr rfl [20, 21, 22, 23, 24, 25, 26, 27, 6, 7] (by kernel_rfl) (fun K hK => ?_)
      simp only [Act.put, List.setIfInBounds_toArray] at hK ⊢
      clear hj hf
      rw [e1, e2] at hK ⊢
      clear e1 e2
      go_simp
      exact hK _ _ (fun k v _ _ h => h) (fun t ht => rfl) (hcm.keep (by decide) (by decide) (by decide) (by decide) rfl rfl (Below.refl _ _))
    · have e1 : f 22 = .pointer (some ⟨ba, oa + i * 8, none⟩) := hf 2 _ _ rfl rfl (up_dep hr (by kernel_rfl))
      have kx0 := keep_cell hcm.1 hx0
      have kx1 := keep_cell hcm.1 hx1
      have kx2 := keep_cell hcm.1 hx2
      have kx3 := keep_cell hcm.1 hx3
      have kx4 := keep_cell hcm.1 hx4
      have kx5 := keep_cell hcm.1 hx5
      have kx6 := keep_cell hcm.1 hx6
      have kx7 := keep_cell hcm.1 hx7
      have kl := World.block_lt_of_cell? _ _ kx0
      simp only at kl
      refine GJ.op hj (by kernel_rfl) hr rfl [20, 21, 22, 23, 24, 25, 26, 27, 6, 7] (by kernel_rfl) (fun K hK => ?_)
      simp only [Act.put, List.setIfInBounds_toArray] at hK ⊢
      clear hj hf
      rw [e1] at hK ⊢
      clear e1
      go_simp
      exact hK _ _ (fun k v _ _ h => h) (fun t ht => rfl) (hcm.keep (by decide) (by decide) (by decide) (by decide) rfl rfl (Below.refl _ _))
    · refine GJ.op hj (by kernel_rfl) hr rfl [20, 21, 22, 23, 24, 25, 26, 27, 6, 7] (by kernel_rfl) (fun K hK => ?_)
      simp only [Act.put, List.setIfInBounds_toArray] at hK ⊢
      clear hj hf
      go_simp
      exact hK _ _ (fun k v _ _ h => h) (fun t ht => rfl) (hcm.keep (by decide) (by decide) (by decide) (by decide) rfl rfl (Below.refl _ _))
    · refine GJ.op hj (by kernel_rfl) hr rfl [20, 21, 22, 23, 24, 25, 26, 27, 6, 7] (by kernel_rfl) (fun K hK => ?_)
      simp only [Act.put, List.setIfInBounds_toArray] at hK ⊢
      clear hj hf
      go_simp
      exact hK _ _ (fun k v _ _ h => h) (fun t ht => rfl) (hcm.keep (by decide) (by decide) (by decide) (by decide) rfl rfl (Below.refl _ _))
    · have e1 : f 24 = .slice (some ⟨bb, ob, none⟩) m cb := hf 4 _ _ rfl rfl (up_dep hr (by kernel_rfl))
      have e2 : f 25 = .int .i64 (i : Int) := hf 5 _ _ rfl rfl (up_dep hr (by kernel_rfl))
      have q1 := Q1.out
      have q2 := Q2.out
      have q3 := Q3.out
      have q4 := Q4.out
      refine GJ.op hj (by kernel_rfl) hr rfl [20, 21, 22, 23, 24, 25, 26, 27, 6, 7] (by kernel_rfl) (fun K hK => ?_)
      simp only [Act.put, List.setIfInBounds_toArray] at hK ⊢
      clear hj hf
      rw [e1, e2] at hK ⊢
      clear e1 e2
      go_simp
      exact hK _ _ (fun k v _ _ h => h) (fun t ht => rfl) (hcm.keep (by decide) (by decide) (by decide) (by decide) rfl rfl (Below.refl _ _))
    · have e1 : f 26 = .pointer (some ⟨bb, ob + i * 8, none⟩) := hf 6 _ _ rfl rfl (up_dep hr (by kernel_rfl))
      have ky0 := keep_cell hcm.1 hy0
      have ky1 := keep_cell hcm.1 hy1
      have ky2 := keep_cell hcm.1 hy2
      have ky3 := keep_cell hcm.1 hy3
      have ky4 := keep_cell hcm.1 hy4
      have ky5 := keep_cell hcm.1 hy5
      have ky6 := keep_cell hcm.1 hy6
      have ky7 := keep_cell hcm.1 hy7
      have kl := World.block_lt_of_cell? _ _ ky0
      simp only at kl
      refine GJ.op hj (by kernel_rfl) hr rfl [20, 21, 22, 23, 24, 25, 26, 27, 6, 7] (by kernel_rfl) (fun K hK => ?_)
      simp only [Act.put, List.setIfInBounds_toArray] at hK ⊢
      clear hj hf
      rw [e1] at hK ⊢
      clear e1
      go_simp
      exact hK _ _ (fun k v _ _ h => h) (fun t ht => rfl) (hcm.keep (by decide) (by decide) (by decide) (by decide) rfl rfl (Below.refl _ _))
    · have nS : ¬ up listed 10 := fun h => not_up hun (hj.closed 10 8 h (by kernel_rfl))
      refine GJ.op hj (by kernel_rfl) hr rfl [20, 21, 22, 23, 24, 25, 26, 27, 6, 7] (by kernel_rfl) (fun K hK => ?_)
      simp only [Act.put, List.setIfInBounds_toArray] at hK ⊢
      clear hj hf
      go_simp
      exact hK _ _ (fun k v _ _ h => KS.st _ _ _ _ (Fx.of_below (held_alloc (Below.refl _ _))) h) (fun t ht => trivial) (hcm.alloca nS rfl rfl)
    · have nS : ¬ up listed 11 := fun h => not_up hun (hj.closed 11 9 h (by kernel_rfl))
      refine GJ.op hj (by kernel_rfl) hr rfl [20, 21, 22, 23, 24, 25, 26, 27, 6, 7] (by kernel_rfl) (fun K hK => ?_)
      simp only [Act.put, List.setIfInBounds_toArray] at hK ⊢
      clear hj hf
      go_simp
      exact hK _ _ (fun k v _ _ h => KS.st _ _ _ _ (Fx.of_below (held_alloc (Below.refl _ _))) h) (fun t ht => trivial) (hcm.allocb nS rfl rfl)
    · have nS : ¬ up listed 10 := not_up hun
      have uV : up listed 8 := up_dep hr (by kernel_rfl)
      have nB : ¬ up listed 11 := fun h => not_up hun (hj.closed 11 10 h (by kernel_rfl))
      have e1 : f 23 = .agg #[.int .u8 (c.kind : Int), .slice qn c.names.length cn, .int .u8 (c.dom : Int), .int .i64 c.idx, .int .i64 c.a, .int .i64 c.b, .slice qi c.items.length ci, .int .i64 c.off] := hf 3 _ _ rfl rfl (up_dep hr (by kernel_rfl))
      obtain ⟨bv, ev, hBv, hzv, _⟩ := hcm.2.1 uV
      have hbx := hzv nS
      refine GJ.op hj (by kernel_rfl) hr rfl [20, 21, 22, 23, 24, 25, 26, 27, 6, 7] (by kernel_rfl) (fun K hK => ?_)
      simp only [Act.put, List.setIfInBounds_toArray] at hK ⊢
      clear hj hf
      rw [e1] at hK ⊢
      clear e1
      rw [ev] at hK ⊢
      have kx0 := hbx.cell 0
      have kx1 := hbx.cell 1
      have kx2 := hbx.cell 2
      have kx3 := hbx.cell 3
      have kx4 := hbx.cell 4
      have kx5 := hbx.cell 5
      have kx6 := hbx.cell 6
      have kx7 := hbx.cell 7
      have fx0 := hbx.frozen 0
      have fx1 := hbx.frozen 1
      have fx2 := hbx.frozen 2
      have fx3 := hbx.frozen 3
      have fx4 := hbx.frozen 4
      have fx5 := hbx.frozen 5
      have fx6 := hbx.frozen 6
      have fx7 := hbx.frozen 7
      have yl := hbx.lt
      have HBX := Lib.hid hbx
      have HCM := Lib.hid hcm
      have HEV := Lib.hid ev
      clear hbx hzv hcm ev
      go_simp
      exact hK undef _ (fun k v _ _ h => KS.st _ _ _ _ ((fx_set8 w9 bv 0 _ _ _ _ _ _ _ _).mono (fun b e => e ▸ hBv)) h) (fun t ht => by cases ht) (HCM.out.puta (by rw [hlsz]; decide) uV nS nB HEV.out hBv HBX.out rfl rfl)
    · have nS : ¬ up listed 11 := not_up hun
      have uV : up listed 9 := up_dep hr (by kernel_rfl)
      have uA : up listed 8 := up_dep hr (by kernel_rfl)
      have uS : up listed 10 := up_dep hr (by kernel_rfl)
      have e1 : f 27 = .agg #[.int .u8 (d.kind : Int), .slice qm d.names.length cm, .int .u8 (d.dom : Int), .int .i64 d.idx, .int .i64 d.a, .int .i64 d.b, .slice qj d.items.length cj, .int .i64 d.off] := hf 7 _ _ rfl rfl (up_dep hr (by kernel_rfl))
      obtain ⟨bv, ev, hBv, hzv, _⟩ := hcm.2.2.1 uV
      have hbx := hzv nS
      refine GJ.op hj (by kernel_rfl) hr rfl [20, 21, 22, 23, 24, 25, 26, 27, 6, 7] (by kernel_rfl) (fun K hK => ?_)
      simp only [Act.put, List.setIfInBounds_toArray] at hK ⊢
      clear hj hf
      rw [e1] at hK ⊢
      clear e1
      rw [ev] at hK ⊢
      have kx0 := hbx.cell 0
      have kx1 := hbx.cell 1
      have kx2 := hbx.cell 2
      have kx3 := hbx.cell 3
      have kx4 := hbx.cell 4
      have kx5 := hbx.cell 5
      have kx6 := hbx.cell 6
      have kx7 := hbx.cell 7
      have fx0 := hbx.frozen 0
      have fx1 := hbx.frozen 1
      have fx2 := hbx.frozen 2
      have fx3 := hbx.frozen 3
      have fx4 := hbx.frozen 4
      have fx5 := hbx.frozen 5
      have fx6 := hbx.frozen 6
      have fx7 := hbx.frozen 7
      have yl := hbx.lt
      have HBX := Lib.hid hbx
      have HCM := Lib.hid hcm
      have HEV := Lib.hid ev
      clear hbx hzv hcm ev
      go_simp
      exact hK undef _ (fun k v _ _ h => KS.st _ _ _ _ ((fx_set8 w9 bv 0 _ _ _ _ _ _ _ _).mono (fun b e => e ▸ hBv)) h) (fun t ht => by cases ht) (HCM.out.putb (by rw [hlsz]; decide) uA uV uS nS HEV.out hBv HBX.out rfl rfl)
  · intro listed a w10 hr hj
    have hu : ∀ k, k < 12 → up listed k := fun k hk => all_up (by kernel_rfl) hj.lsize hr k hk
    obtain ⟨f, rfl, hcm, hf⟩ := hj.opened [20, 21, 22, 23, 24, 25, 26, 27, 6, 7] (by kernel_rfl)
    replace hcm : C6 wr #[.int .u8 0, .slice none 0 0, .int .u8 0, .int .i64 0, .int .i64 0, .int .i64 0, .slice none 0 0, .int .i64 0] #[.int .u8 (c.kind : Int), .slice qn c.names.length cn, .int .u8 (c.dom : Int), .int .i64 c.idx, .int .i64 c.a, .int .i64 c.b, .slice qi c.items.length ci, .int .i64 c.off] #[.int .u8 (d.kind : Int), .slice qm d.names.length cm, .int .u8 (d.dom : Int), .int .i64 d.idx, .int .i64 d.a, .int .i64 d.b, .slice qj d.items.length cj, .int .i64 d.off] listed f w10 := hcm
    have hlsz : listed.size = 12 := hj.lsize
    obtain ⟨P, ep, hP, _, hx⟩ := hcm.2.1 (hu 8 (by omega))
    obtain ⟨R, er, hR, _, hy⟩ := hcm.2.2.1 (hu 9 (by omega))
    have hne : P ≠ R := by
      intro e
      refine hcm.2.2.2 (hu 8 (by omega)) (hu 9 (by omega)) ?_
      rw [ep, er, e]
    have hxb := hx (hu 10 (by omega))
    have hyb := hy (hu 11 (by omega))
    have hbl := hcm.1
    clear hcm hx hy hf hj hr hu
    simp only [List.foldl_cons, List.foldl_nil, List.setIfInBounds_toArray, List.set_cons_zero, List.set_cons_succ]
    rw [ep, er]
    exact hQ.out _ P R (f 20) (f 21) (f 22) (f 23) (f 24) (f 25) (f 26) (f 27) hP hR hne hxb hyb hbl
end Go.Proofs.YtganlldidjbpiaaGreatDoor

namespace Go.Proofs.YtganlldidjbpiaaGreatDoor
open Go.RowKit Go.Shelf

set_option maxRecDepth 100000 in
set_option maxHeartbeats 8000000 in
theorem rsame_c (D D' : Nat → Prop) (w : World) (v u : Value) (l m : List Cl) (h : SlC D w v l) (k : SlC D' w u m) (hlen : l.length = m.length) (hS : ∀ i, i < l.length → ∀ (W : World) (v u : Value), SlC D W v (l.getD i cl0).items → SlC D' W u (m.getD i cl0).items → Calls Tryz.prog 20 #[v, u] W (RetB W (eqL (l.getD i cl0).items (m.getD i cl0).items))) :
    Calls Tryz.prog 20 #[v, u] w (RetB w (eqL l m)) := by
  have H := Lib.hid h
  have K := Lib.hid k
  obtain ⟨p, ca, rfl, h1, h2, _⟩ := h.shape
  obtain ⟨q, cb, rfl, k1, k2, _⟩ := k.shape
  clear h k
  obtain ⟨B, hB⟩ : ∃ B, eqL l m = B := ⟨_, rfl⟩
  rw [hB]
  have HBQ := Lib.hid hB
  have q0 : (((l.length : Nat) : Int) != ((m.length : Nat) : Int)) = false := by simp; omega
  have hl1 : l.length ≤ m.length := by omega
  have hl2 : m.length ≤ l.length := by omega
  have HLE := Lib.hid hlen
  clear hB hlen
  go_enter Tryz.func20, Tryz.ntmps20
  go_wp2_with fail
  go_loopg [5] l.length (fun g t wx => ∃ i : Nat, i ≤ l.length ∧ g = l.length - i ∧ t = .int .i64 (i : Int) ∧ Hid (∀ j, j < i → eqC (l.getD j cl0) (m.getD j cl0) = true) ∧ Hid (Below w.heap.size w wx))
  case atStart => exact ⟨0, Nat.zero_le _, rfl, rfl, fun j hj => absurd hj (by omega), Below.refl _ _⟩
  case round =>
    obtain ⟨i, hi, rfl, rfl, heq, hbl⟩ := hrel
    by_cases hlt : i < l.length
    · obtain ⟨ba, oa, ca, ea, _, _, _, la, hca⟩ := (H.out.after hbl.out).at_ (by omega)
      obtain ⟨bb, ob, cb, eb, _, _, _, lb, hcb⟩ := (K.out.after hbl.out).at_ (by omega)
      injection ea with ea _ ec
      subst ea ec
      injection eb with eb _ ec
      subst eb ec
      obtain ⟨vn, vi, hc, x0, x1, x2, x3, x4, x5, x6, x7⟩ := hca i hlt
      obtain ⟨vm, vj, hd, y0, y1, y2, y3, y4, y5, y6, y7⟩ := hcb i (by omega)
      have HS := Lib.hid (hS i hlt)
      clear hca hcb
      have il : (i : Int) < (l.length : Int) := by omega
      have im : (i : Int) < (m.length : Int) := by omega
      have i0 : (0 : Int) ≤ (i : Int) := by omega
      obtain ⟨c, hx⟩ : ∃ x, l.getD i cl0 = x := ⟨_, rfl⟩
      obtain ⟨d, hy⟩ : ∃ y, m.getD i cl0 = y := ⟨_, rfl⟩
      rw [hx] at x0 x2 x3 x4 x5 x7 hc HS
      rw [hy] at y0 y2 y3 y4 y5 y7 hd HS
      have HX := Lib.hid hx
      have HY := Lib.hid hy
      clear hx hy
      obtain ⟨qn, cn, rfl, _, _, _⟩ := (hasC_iff.1 hc).2.1.2.shape
      obtain ⟨qi, ci, rfl, _, _, _⟩ := (hasC_iff.1 hc).2.2.shape
      obtain ⟨qm, cm, rfl, _, _, _⟩ := (hasC_iff.1 hd).2.1.2.shape
      obtain ⟨qj, cj, rfl, _, _, _⟩ := (hasC_iff.1 hd).2.2.shape
      have HC := Lib.hid hc
      have HD := Lib.hid hd
      clear hc hd
      go_wp2_with fail
      refine rsame_r6 (c := c) (d := d) _ (by kernel_rfl) hlt (by omega) x0 x1 x2 x3 x4 x5 x6 x7 y0 y1 y2 y3 y4 y5 y6 y7 ?_
      intro W P R y20 y21 y22 y23 y24 y25 y26 y27 hP hR hne hxb hyb hb
      have HB1 := Lib.hid (hbl.out.trans (hb.mono hbl.out.size))
      obtain ⟨_, hnc, hic⟩ := hasC_iff.1 HC.out
      obtain ⟨_, hnd, hid⟩ := hasC_iff.1 HD.out
      have HNC1 := Lib.hid (hnc.fx (S := fun _ => False) (Fx.of_below hb) (fun _ _ _ e => e))
      have HND1 := Lib.hid (hnd.fx (S := fun _ => False) (Fx.of_below hb) (fun _ _ _ e => e))
      have HIC1 := Lib.hid (hic.after hb)
      have HID1 := Lib.hid (hid.after hb)
      have HXB := Lib.hid hxb
      have HYB := Lib.hid hyb
      obtain ⟨d0, d1, d2, d3, d4, d5, d6, d7⟩ := hxb.cells8
      obtain ⟨e0, e1, e2, e3, e4, e5, e6, e7⟩ := hyb.cells8
      have lP := hxb.lt
      have lR := hyb.lt
      clear hnc hic hnd hid hb hxb hyb HC HD x0 x1 x2 x3 x4 x5 x6 x7 y0 y1 y2 y3 y4 y5 y6 y7 hP hR hne
      by_cases hkind : c.kind = d.kind
      · have qkind : (((c.kind : Nat) : Int) != ((d.kind : Nat) : Int)) = false := by simp; omega
        have Hkind := Lib.hid hkind
        clear hkind
        by_cases hdom : c.dom = d.dom
        · have qdom : (((c.dom : Nat) : Int) != ((d.dom : Nat) : Int)) = false := by simp; omega
          have Hdom := Lib.hid hdom
          clear hdom
          by_cases hidx : c.idx = d.idx
          · have qidx : (c.idx != d.idx) = false := by simp; omega
            have Hidx := Lib.hid hidx
            clear hidx
            by_cases ha : c.a = d.a
            · have qa : (c.a != d.a) = false := by simp; omega
              have Ha := Lib.hid ha
              clear ha
              by_cases hb : c.b = d.b
              · have qb : (c.b != d.b) = false := by simp; omega
                have Hb := Lib.hid hb
                clear hb
                by_cases hnames : c.names.length = d.names.length
                · have qnames : (((c.names.length : Nat) : Int) != ((d.names.length : Nat) : Int)) = false := by simp; omega
                  go_wp2_with fail
                  refine (HS.out W _ _ HIC1.out HID1.out).mono ?_
                  rintro e w2 ⟨rfl, hb2⟩
                  have HB2 := Lib.hid (HB1.out.trans (hb2.mono HB1.out.size))
                  have HNC2 := Lib.hid (HNC1.out.fx (S := fun _ => False) (Fx.of_below hb2) (fun _ _ _ e => e))
                  have HND2 := Lib.hid (HND1.out.fx (S := fun _ => False) (Fx.of_below hb2) (fun _ _ _ e => e))
                  have HXB2 := Lib.hid (HXB.out.after hb2)
                  have HYB2 := Lib.hid (HYB.out.after hb2)
                  clear hb2 d0 d1 d2 d3 d4 d5 d6 d7 e0 e1 e2 e3 e4 e5 e6 e7 lP lR HXB HYB HIC1 HID1 HB1 HNC1 HND1
                  cases he : eqL c.items d.items with
                  | false =>
                    have HB1 := HB2
                    have HE : Hid (B = false) := by
                      show _ = _
                      rw [← HBQ.out]
                      exact eqL_no HLE.out i hlt (by rw [HX.out, HY.out, eqC_at]; simp [he])
                    clear he
                    go_wp2_with fail
                    go_ret
                    rw [HE.out]
                    exact ⟨rfl, HB1.out⟩
                  | true =>
                    have HEI := Lib.hid he
                    clear he
                    have hn1 : c.names.length ≤ d.names.length := by omega
                    have hn2 : d.names.length ≤ c.names.length := by omega
                    clear hnames
                    go_wp2_with fail
                    go_loopg [8] c.names.length (fun g t wx => ∃ k : Nat, k ≤ c.names.length ∧ g = c.names.length - k ∧ t = .int .i64 (k : Int) ∧ Hid (∀ j, j < k → c.names.getD j [] = d.names.getD j []) ∧ Hid (Below w2.heap.size w2 wx))
                    case atStart => exact ⟨0, Nat.zero_le _, rfl, rfl, fun j hj => absurd hj (by omega), Below.refl _ _⟩
                    case round =>
                      obtain ⟨k, hk, rfl, rfl, hnm, hbk⟩ := hrel
                      have d1 := keep_cell hbk.out (HXB2.out.cell 1)
                      have e1 := keep_cell hbk.out (HYB2.out.cell 1)
                      have lP := World.block_lt_of_cell? _ _ d1
                      have lR := World.block_lt_of_cell? _ _ e1
                      simp only at lP lR d1 e1
                      have d1 : wr.cell? ⟨P, 1, none⟩ = some (.slice qn c.names.length cn) := d1
                      have e1 : wr.cell? ⟨R, 1, none⟩ = some (.slice qm d.names.length cm) := e1
                      have HB3 := Lib.hid (HB2.out.trans (hbk.out.mono HB2.out.size))
                      by_cases hkl : k < c.names.length
                      · obtain ⟨bp, op, cp, ep, _, _, _, lp, hcp⟩ := (HNC2.out.2.after hbk.out).at_ (by omega)
                        obtain ⟨bq, oq, cq, eq_, _, _, _, lq, hcq⟩ := (HND2.out.2.after hbk.out).at_ (by omega)
                        injection ep with ep _ ec
                        subst ep ec
                        injection eq_ with eq_ _ ec
                        subst eq_ ec
                        have x0 : wr.cell? ⟨bp, op + k, none⟩ = some (.string (bs (c.names.getD k []))) := by have := hcp k hkl 0 (by omega); simpa using this
                        have y0 : wr.cell? ⟨bq, oq + k, none⟩ = some (.string (bs (d.names.getD k []))) := by have := hcq k (by omega) 0 (by omega); simpa using this
                        clear hcp hcq
                        have kl : (k : Int) < (c.names.length : Int) := by omega
                        have km : (k : Int) < (d.names.length : Int) := by omega
                        have k0 : (0 : Int) ≤ (k : Int) := by omega
                        obtain ⟨x, hx⟩ : ∃ x, c.names.getD k [] = x := ⟨_, rfl⟩
                        obtain ⟨y, hy⟩ : ∃ y, d.names.getD k [] = y := ⟨_, rfl⟩
                        rw [hx] at x0
                        rw [hy] at y0
                        have HNX := Lib.hid hx
                        have HNY := Lib.hid hy
                        clear hx hy
                        by_cases hxy : x = y
                        · have qn1 : ((bs x).toList == (bs y).toList) = true := by rw [hxy]; simp
                          have HXY := Lib.hid hxy
                          clear hxy
                          go_wp2_with fail
                          go_quiet (fail)
                          go_wp2_with fail
                          go_roundg (c.names.length - (k + 1))
                          case measure => omega
                          case rel =>
                            refine ⟨k + 1, by omega, rfl, by go_num, fun j hj => ?_, hbk.out.trans (below_drewN _ _ _)⟩
                            rcases Nat.lt_or_ge j k with h | h
                            · exact hnm.out j h
                            · obtain rfl : j = k := by omega
                              rw [HNX.out, HNY.out]; exact HXY.out
                        · have qn1 : ((bs x).toList == (bs y).toList) = false := bs_eq_no hxy
                          have HN : Hid (¬ c.names = d.names) := fun e => hxy (by rw [← HNX.out, ← HNY.out, e])
                          have HE : Hid (B = false) := by
                            show _ = _
                            rw [← HBQ.out]
                            exact eqL_no HLE.out i hlt (by rw [HX.out, HY.out, eqC_at]; simp [HN.out])
                          clear hxy
                          go_wp2_with fail
                          go_quiet (fail)
                          go_wp2_with fail
                          go_ret
                          rw [HE.out]
                          exact ⟨rfl, HB3.out.trans (below_drewN _ _ _)⟩
                      · obtain rfl : k = c.names.length := by omega
                        have HN : Hid (c.names = d.names) := by
                          show _ = _
                          refine List.ext_getElem (by omega) (fun j h1 h2 => ?_)
                          have := hnm.out j h1
                          rw [List.getD_eq_getElem?_getD, List.getElem?_eq_getElem h1, List.getD_eq_getElem?_getD, List.getElem?_eq_getElem h2] at this
                          exact this
                        go_wp2_with fail
                        go_roundg (l.length - (i + 1))
                        case measure => omega
                        case rel =>
                          refine ⟨i + 1, by omega, rfl, by go_num, fun j hj => ?_, HB3.out⟩
                          rcases Nat.lt_or_ge j i with h | h
                          · exact heq.out j h
                          · obtain rfl : j = i := by omega
                            rw [HX.out, HY.out, eqC_at]
                            simp [Hkind.out, Hdom.out, Hidx.out, Ha.out, Hb.out, HN.out, HEI.out]
                · have qnames : (((c.names.length : Nat) : Int) != ((d.names.length : Nat) : Int)) = true := by simp; omega
                  have hnn : ¬ c.names = d.names := fun e => hnames (by rw [e])
                  have HE : Hid (B = false) := by
                    show _ = _
                    rw [← HBQ.out]
                    exact eqL_no HLE.out i hlt (by rw [HX.out, HY.out, eqC_at]; simp [hnn])
                  clear hnames hnn
                  go_wp2_with fail
                  go_ret
                  rw [HE.out]
                  exact ⟨rfl, HB1.out⟩
              · have qb : (c.b != d.b) = true := by simp; omega
                have HE : Hid (B = false) := by
                  show _ = _
                  rw [← HBQ.out]
                  exact eqL_no HLE.out i hlt (by rw [HX.out, HY.out, eqC_at]; simp [hb])
                clear hb
                go_wp2_with fail
                go_ret
                rw [HE.out]
                exact ⟨rfl, HB1.out⟩
            · have qa : (c.a != d.a) = true := by simp; omega
              have HE : Hid (B = false) := by
                show _ = _
                rw [← HBQ.out]
                exact eqL_no HLE.out i hlt (by rw [HX.out, HY.out, eqC_at]; simp [ha])
              clear ha
              go_wp2_with fail
              go_ret
              rw [HE.out]
              exact ⟨rfl, HB1.out⟩
          · have qidx : (c.idx != d.idx) = true := by simp; omega
            have HE : Hid (B = false) := by
              show _ = _
              rw [← HBQ.out]
              exact eqL_no HLE.out i hlt (by rw [HX.out, HY.out, eqC_at]; simp [hidx])
            clear hidx
            go_wp2_with fail
            go_ret
            rw [HE.out]
            exact ⟨rfl, HB1.out⟩
        · have qdom : (((c.dom : Nat) : Int) != ((d.dom : Nat) : Int)) = true := by simp; omega
          have HE : Hid (B = false) := by
            show _ = _
            rw [← HBQ.out]
            exact eqL_no HLE.out i hlt (by rw [HX.out, HY.out, eqC_at]; simp [hdom])
          clear hdom
          go_wp2_with fail
          go_ret
          rw [HE.out]
          exact ⟨rfl, HB1.out⟩
      · have qkind : (((c.kind : Nat) : Int) != ((d.kind : Nat) : Int)) = true := by simp; omega
        have HE : Hid (B = false) := by
          show _ = _
          rw [← HBQ.out]
          exact eqL_no HLE.out i hlt (by rw [HX.out, HY.out, eqC_at]; simp [hkind])
        clear hkind
        go_wp2_with fail
        go_ret
        rw [HE.out]
        exact ⟨rfl, HB1.out⟩
    · obtain rfl : i = l.length := by omega
      have HE : Hid (B = true) := by
        show _ = _
        rw [← HBQ.out]
        exact eqL_yes HLE.out heq.out
      go_wp2_with fail
      go_ret
      rw [HE.out]
      exact ⟨rfl, hbl.out⟩
set_option maxRecDepth 100000 in
set_option maxHeartbeats 4000000 in
theorem rsame_no (w : World) (p q : Option Addr) (n m c d : Nat) (hlen : n ≠ m) :
    Calls Tryz.prog 20 #[.slice p n c, .slice q m d] w (RetB w false) := by
  have q0 : (((n : Nat) : Int) != ((m : Nat) : Int)) = true := by simp; omega
  go_enter Tryz.func20, Tryz.ntmps20
  go_wp2_with fail
  go_ret
  exact ⟨rfl, Below.refl _ _⟩
theorem rSame_n (D D' : Nat → Prop) : ∀ (n : Nat) (l m : List Cl), SizeOf.sizeOf l < n → ∀ (w : World) (v u : Value), SlC D w v l → SlC D' w u m → Calls Tryz.prog 20 #[v, u] w (RetB w (eqL l m))
  | 0, _, _, h => absurd h (Nat.not_lt_zero _)
  | n + 1, l, m, hn => by
    intro w v u h k
    by_cases hlen : l.length = m.length
    · exact rsame_c D D' w v u l m h k hlen (fun i hi W v u => rSame_n D D' n _ _ (by have := items_at_lt hi; omega) W v u)
    · obtain ⟨p, c, rfl, _, _, _⟩ := h.shape
      obtain ⟨q, d, rfl, _, _, _⟩ := k.shape
      rw [eqL_len hlen]
      exact rsame_no w p q _ _ c d hlen
/-- The reference's Same, of any two trees. -/
theorem rSame_c (D D' : Nat → Prop) (w : World) (v u : Value) (l m : List Cl) (h : SlC D w v l) (k : SlC D' w u m) : Calls Tryz.prog 20 #[v, u] w (RetB w (eqL l m)) := rSame_n D D' _ l m (Nat.lt_succ_self _) w v u h k
end Go.Proofs.YtganlldidjbpiaaGreatDoor

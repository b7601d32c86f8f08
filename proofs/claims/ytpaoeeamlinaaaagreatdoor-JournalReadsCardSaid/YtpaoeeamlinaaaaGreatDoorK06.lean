/- Journal, walks of the package: flat.
   Journal: drawn regions by an invariant: what operations yield (values, rows of ints of the call's own), and a block that is written over last. -/
import Derived.Test.YtpaoeeamlinaaaaGreatDoorK05
import Derived.Test.YtpaoeeamlinaaaaGreatDoorK04
set_option linter.unusedVariables false
namespace Go.Proofs.YtpaoeeamlinaaaaGreatDoor
open Go.RowKit

theorem OwnI.le {w : World} {base b : Nat} {v : Value} {l : List Int} (h : OwnI w base v l) (hb : b ≤ base) : OwnI w b v l := by
  obtain ⟨h0, h1, h2⟩ := h
  refine ⟨h0, h1, ?_⟩
  rcases h2 with h2 | ⟨g, cap, cur, e, hge, h3⟩
  · exact .inl h2
  · exact .inr ⟨g, cap, cur, e, Nat.le_trans hb hge, h3⟩
theorem OwnI.far {w : World} {base : Nat} {v : Value} {l : List Int} (h : OwnI w base v l) {p : Addr} (hp : p.block < base) (u : Value) : OwnI (w.setCell p u) base v l := by
  obtain ⟨h0, h1, h2⟩ := h
  refine ⟨h0, h1, ?_⟩
  rcases h2 with h2 | ⟨g, cap, cur, e, hge, hg, h3⟩
  · exact .inl h2
  · exact .inr ⟨g, cap, cur, e, hge, (Below.heap_setCell w p u g (by omega)).trans hg, h3⟩
theorem OwnI.two (w : World) {base : Nat} (hb : base ≤ w.heap.size) {a b : Int} (ha : In64 a) (hb' : In64 b) : OwnI (w.alloc (.cells #[.int .i64 a, .int .i64 b] 3)) base (.slice (some ⟨w.heap.size, 0, none⟩) 2 2) [a, b] :=
  ⟨by simp [ha, hb'], rfl, .inr ⟨w.heap.size, 2, #[.int .i64 a, .int .i64 b], rfl, hb, heap_alloc_new w _, Nat.le_refl _, by simp [maxLen], rfl, rfl⟩⟩
theorem OwnI.three (w : World) {base : Nat} (hb : base ≤ w.heap.size) {a b c : Int} (ha : In64 a) (hb' : In64 b) (hc : In64 c) : OwnI (w.alloc (.cells #[.int .i64 a, .int .i64 b, .int .i64 c] 3)) base (.slice (some ⟨w.heap.size, 0, none⟩) 3 3) [a, b, c] :=
  ⟨by simp [ha, hb', hc], rfl, .inr ⟨w.heap.size, 3, #[.int .i64 a, .int .i64 b, .int .i64 c], rfl, hb, heap_alloc_new w _, Nat.le_refl _, by simp [maxLen], rfl, rfl⟩⟩
theorem flat_steps (ss : List Stp) (i : Nat) (hi : i < ss.length) : (ss.take (i + 1)).flatMap stepL = (ss.take i).flatMap stepL ++ stepL (ss.getD i stp0) := by
  rw [List.take_succ_eq_append_getElem hi, List.flatMap_append, List.getD_eq_getElem?_getD, List.getElem?_eq_getElem hi]
  simp
theorem flat_lists (ls : List (List Int)) (i : Nat) (hi : i < ls.length) : (ls.take (i + 1)).flatMap lenL = (ls.take i).flatMap lenL ++ lenL (ls.getD i []) := by
  rw [List.take_succ_eq_append_getElem hi, List.flatMap_append, List.getD_eq_getElem?_getD, List.getElem?_eq_getElem hi]
  simp
theorem flat_steps_len (ss : List Stp) : (ss.flatMap stepL).length = 4 * ss.length := by
  induction ss with
  | nil => rfl
  | cons s ss ih => simp only [List.flatMap_cons, List.length_append, ih, stepL, List.length_cons, List.length_nil]; omega
theorem flat_lists_len (ls : List (List Int)) (h : ∀ a ∈ ls, a.length ≤ 12) : (ls.flatMap lenL).length ≤ 13 * ls.length := by
  induction ls with
  | nil => simp
  | cons a ls ih =>
    have h1 := ih (fun b hb => h b (List.mem_cons_of_mem _ hb))
    have h2 := h a List.mem_cons_self
    simp only [List.flatMap_cons, List.length_append, lenL, List.length_cons]; omega

set_option maxRecDepth 100000 in
set_option maxHeartbeats 2000000 in
theorem flat_c (w : World) (vs va : Value) (ss : List Stp) (ls : List (List Int)) (h : SlS w vs ss) (k : SlL w va ls) (hs : ss.length ≤ 12) (ha : ls.length ≤ 12) (hls : ∀ a ∈ ls, a.length ≤ 12) :
    Calls Tryz.prog 42 #[.agg #[vs, va]] w fun e w' => ∃ v, e = .returned v ∧ OwnI w' w.heap.size v (planned ss ls) ∧ Below w.heap.size w w' := by
  obtain ⟨p, c, rfl, h1, h2, _⟩ := h.2.shape
  obtain ⟨u, hu, hu'⟩ := k
  obtain ⟨q, d, rfl, k1, k2, _⟩ := hu.shape
  obtain ⟨W0, hW⟩ : ∃ W0, W0 = w.alloc (.cells #[.slice p ss.length c, .slice q ls.length d] 27) := ⟨_, rfl⟩
  have hb0 : Below w.heap.size w W0 := by rw [hW]; exact (Below.refl _ w).alloc (Nat.le_refl _) _
  have hbx : Box W0 w.heap.size #[.slice p ss.length c, .slice q ls.length d] 27 := by rw [hW]; exact Box.new _ _ _
  have hz0 : W0.heap.size = w.heap.size + 1 := by rw [hW]; simp
  have H := Lib.hid (h.after hb0)
  have KU := Lib.hid (hu.after hb0)
  have KI : Hid (∀ i, i < ls.length → SlI W0 (u i) (ls.getD i [])) := fun i hi => (hu' i hi).after hb0
  have HLS := Lib.hid hls
  have HB := Lib.hid hb0
  have BX := Lib.hid hbx
  have x0 : W0.cell? ⟨w.heap.size, 0, none⟩ = some (.slice p ss.length c) := hbx.cell 0
  have x1 : W0.cell? ⟨w.heap.size, 1, none⟩ = some (.slice q ls.length d) := hbx.cell 1
  clear h hu hu' hb0 hbx hls
  go_enter Tryz.func42, Tryz.ntmps42
  go_upto_region 1 with fail
  rw [← hW]
  clear hW
  go_wp2_with fail
  go_loopg [3, 15] ss.length (fun g o t wx => ∃ (i : Nat) (r : List Int), i ≤ ss.length ∧ g = ss.length - i ∧ t = .int .i64 (i : Int) ∧ r.length ≤ 1000 ∧ Hid (r = (ss.length : Int) :: (ss.take i).flatMap stepL) ∧ Hid (OwnI wx W0.heap.size o r) ∧ Hid (Below W0.heap.size W0 wx))
  case atStart =>
    refine ⟨0, [(ss.length : Int)], Nat.zero_le _, rfl, rfl, by simp, rfl, ?_, ?_⟩
    · have h := OwnI.one W0 (Nat.le_refl _) (z := (ss.length : Int)) (by constructor <;> omega)
      show OwnI _ _ _ _
      rw [hz0] at h ⊢
      exact h
    · exact (Below.refl _ _).alloc (Nat.le_refl _) _
  case round =>
    obtain ⟨i, r, hi, rfl, rfl, hrl, hr, hown, hbl⟩ := hrel
    have hsz := hbl.out.size
    by_cases hlt : i < ss.length
    · obtain ⟨ba, oa, ca, ea, _, _, la, hca⟩ := (H.out.2.after hbl.out).at_ (by omega)
      injection ea with ea _ ec
      subst ea ec
      have y0 : wr.cell? ⟨ba, oa + i * 4, none⟩ = some (.int .u8 ((ss.getD i stp0).kind : Int)) := hca i hlt 0 (by omega)
      have y1 : wr.cell? ⟨ba, oa + i * 4 + 1, none⟩ = some (.int .i64 (ss.getD i stp0).host) := hca i hlt 1 (by omega)
      have y2 : wr.cell? ⟨ba, oa + i * 4 + 2, none⟩ = some (.int .i64 (ss.getD i stp0).srv) := hca i hlt 2 (by omega)
      have y3 : wr.cell? ⟨ba, oa + i * 4 + 3, none⟩ = some (.int .i64 (ss.getD i stp0).ver) := hca i hlt 3 (by omega)
      clear hca
      have HSI : Hid (StpOk (ss.getD i stp0)) := by
        rw [List.getD_eq_getElem?_getD, List.getElem?_eq_getElem hlt]; exact H.out.1 _ (List.getElem_mem hlt)
      have HST := Lib.hid (flat_steps ss i hlt)
      have HLN := Lib.hid (flat_steps_len (ss.take (i + 1)))
      have il : (i : Int) < (ss.length : Int) := by omega
      have i0 : (0 : Int) ≤ (i : Int) := by omega
      obtain ⟨s, hs'⟩ : ∃ s, ss.getD i stp0 = s := ⟨_, rfl⟩
      rw [hs'] at y0 y1 y2 y3 HSI HST
      have hkk := HSI.out.1
      clear hs'
      go_wp2_with (at_builtin; refine wpList_appI rfl _ _ rfl W0.heap.size _ _ r [(s.kind : Int), s.host, s.srv, s.ver] rfl (hown.out.after ?d1) rfl ?d2 ?d3 ?d4 ?_)
      case d1 => exact ((Below.refl _ _).alloc (Nat.le_refl _) _).alloc (by simp) _
      case d2 =>
        obtain ⟨hk, hh, hv, hx⟩ := HSI.out
        have h := SlI.four (wr.alloc (.cells #[.int .u8 (s.kind : Int), .int .i64 s.host, .int .i64 s.srv, .int .i64 s.ver] 53)) (a := (s.kind : Int)) (by constructor <;> omega) hh hv hx
        simpa using h
      case d3 => omega
      case d4 => omega
      intro v1 w1 hown1 hb1
      rw [← hz0] at hown1 hb1
      have hsz1 := hb1.size
      have HOWN1 := Lib.hid hown1
      have HBL1 : Hid (Below W0.heap.size W0 w1) := ((hbl.out.alloc hbl.out.size _).alloc (by simp; omega) _).trans hb1
      clear hown1 hb1 y0 y1 y2 y3
      go_wp2_with fail
      go_roundg (ss.length - (i + 1))
      case measure => omega
      case rel =>
        have he : r ++ [(s.kind : Int), s.host, s.srv, s.ver] = (ss.length : Int) :: (ss.take (i + 1)).flatMap stepL := by rw [HST.out, hr.out]; rfl
        refine ⟨i + 1, _, by omega, rfl, by go_num, ?_, he, HOWN1.out, HBL1.out⟩
        rw [he, List.length_cons, HLN.out, List.length_take]; omega
    · obtain rfl : i = ss.length := by omega
      have x1r : wr.cell? ⟨w.heap.size, 1, none⟩ = some (.slice q ls.length d) := (BX.out.after hbl.out).cell 1
      have HR : Hid (r = (ss.length : Int) :: ss.flatMap stepL) := by have := hr.out; rw [List.take_length] at this; exact this
      have HRL : Hid (r.length = 1 + 4 * ss.length) := by rw [show r = _ from HR.out, List.length_cons, flat_steps_len]; show _ = _; omega
      clear hr x0 x1
      go_wp2_with fail
      go_loopg [3, 35] ls.length (fun g o t wx => ∃ (i : Nat) (z : List Int), i ≤ ls.length ∧ g = ls.length - i ∧ t = .int .i64 (i : Int) ∧ z.length ≤ 1000 ∧ Hid (z = r ++ (ls.take i).flatMap lenL) ∧ Hid (OwnI wx W0.heap.size o z) ∧ Hid (Below W0.heap.size W0 wx))
      case atStart => exact ⟨0, r, Nat.zero_le _, rfl, rfl, hrl, (by show _ = _; simp), hown.out, hbl.out⟩
      case round =>
        clear hown hbl x1r hsz
        obtain ⟨i, z, hi, rfl, rfl, hzl, hz, hown, hbl⟩ := hrel
        have hsz := hbl.out.size
        by_cases hlt : i < ls.length
        · obtain ⟨ba, oa, ca, ea, _, _, la, hca⟩ := (KU.out.after hbl.out).at_ (by omega)
          injection ea with ea _ ec
          subst ea ec
          have y0 : wr.cell? ⟨ba, oa + i, none⟩ = some (u i) := by have := hca i hlt 0 (by omega); simpa using this
          clear hca
          have HI := Lib.hid (KI.out i hlt)
          have HST := Lib.hid (flat_lists ls i hlt)
          have HLN := Lib.hid (flat_lists_len (ls.take (i + 1)) (fun a h => HLS.out a (List.mem_of_mem_take h)))
          have hal : (ls.getD i []).length ≤ 12 := by
            rw [List.getD_eq_getElem?_getD, List.getElem?_eq_getElem hlt]; exact HLS.out _ (List.getElem_mem hlt)
          have il : (i : Int) < (ls.length : Int) := by omega
          have i0 : (0 : Int) ≤ (i : Int) := by omega
          obtain ⟨a, hs'⟩ : ∃ a, ls.getD i [] = a := ⟨_, rfl⟩
          rw [hs'] at HI HST hal
          clear hs'
          obtain ⟨pa, cc, hue, hac, _, _⟩ := HI.out.2.shape
          rw [hue] at y0 HI
          clear hue
          go_wp2_with (at_builtin; refine wpList_appI rfl _ _ rfl W0.heap.size _ _ z [(a.length : Int)] rfl (hown.out.after ?d1) rfl ?d2 ?d3 ?d4 ?_)
          case d1 => exact (Below.refl _ _).alloc (Nat.le_refl _) _
          case d2 => exact SlI.one wr (by constructor <;> omega)
          case d3 => omega
          case d4 => omega
          intro v1 w1 hown1 hb1
          rw [← hz0] at hown1 hb1
          have HOWN1 := Lib.hid hown1
          have HBL1 : Hid (Below W0.heap.size W0 w1) := (hbl.out.alloc hbl.out.size _).trans hb1
          have hsz1 := HBL1.out.size
          have HI1 := Lib.hid (HI.out.after HBL1.out)
          clear hown1 hb1 y0
          go_wp2_with (at_builtin; refine wpList_appI rfl _ _ rfl W0.heap.size _ _ (z ++ [(a.length : Int)]) a rfl HOWN1.out rfl HI1.out ?d3 ?d4 ?_)
          case d3 => rw [List.length_append]; show z.length + 1 + a.length ≤ 1000000; omega
          case d4 => omega
          intro v2 w2 hown2 hb2
          rw [← hz0] at hown2 hb2
          have HOWN2 := Lib.hid hown2
          have HBL2 : Hid (Below W0.heap.size W0 w2) := HBL1.out.trans hb2
          clear hown2 hb2
          go_wp2_with fail
          go_roundg (ls.length - (i + 1))
          case measure => omega
          case rel =>
            have he : z ++ (a.length : Int) :: a = r ++ (ls.take (i + 1)).flatMap lenL := by rw [HST.out, hz.out]; simp [lenL]
            refine ⟨i + 1, _, by omega, rfl, by go_num, ?_, he, HOWN2.out, HBL2.out⟩
            have := HLN.out
            rw [List.length_take] at this
            rw [he, List.length_append, HRL.out]; omega
        · obtain rfl : i = ls.length := by omega
          have HZ : Hid (z = planned ss ls) := by have := hz.out; rw [List.take_length, HR.out] at this; rw [this]; rfl
          have HOWN := Lib.hid (hown.out.le (b := w.heap.size) (by omega))
          clear hz hown
          go_wp2_with fail
          go_ret
          refine ⟨_, rfl, ?_, HB.out.trans (hbl.out.mono (by omega))⟩
          rw [← show z = _ from HZ.out]
          exact HOWN.out
end Go.Proofs.YtpaoeeamlinaaaaGreatDoor

namespace Go.Proofs.YtpaoeeamlinaaaaGreatDoor
open Go.RowKit

theorem wrap_in {z : Int} (h0 : -9223372036854775808 ≤ z) (h1 : z ≤ 9223372036854775807) : IntKind.i64.wrap z = z := by rw [IntKind.wrap_i64]; omega
theorem wrap_8 (n : Int) : IntKind.u8.wrap n = n % 256 := by simp [IntKind.wrap, IntKind.bits, IntKind.signed]
theorem Box.set {w : World} {b : Nat} {cs : Array Value} {t : TypeId} (h : Box w b cs t) (i : Nat) (u : Value) : Box (w.setCell ⟨b, i, none⟩ u) b (cs.setIfInBounds i u) t := by
  unfold Box at h ⊢
  simp [World.setCell, Array.getElem?_modify, h]
theorem far7 {W : World} {X R : Nat} {a b c d e f g : Value} (h : R ≠ X) (j : Nat) : (((((((W.setCell ⟨R, 0, none⟩ a).setCell ⟨R, 1, none⟩ b).setCell ⟨R, 2, none⟩ c).setCell ⟨R, 3, none⟩ d).setCell ⟨R, 4, none⟩ e).setCell ⟨R, 5, none⟩ f).setCell ⟨R, 6, none⟩ g).cell? ⟨X, j, none⟩ = W.cell? ⟨X, j, none⟩ := by
  have q : ∀ (W : World) (k : Nat) (u : Value), (W.setCell ⟨R, k, none⟩ u).cell? ⟨X, j, none⟩ = W.cell? ⟨X, j, none⟩ := fun W k u => World.cell?_setCell_far _ _ _ _ h
  simp only [q]
theorem end7 {W : World} {R : Nat} {x0 x1 x2 x3 x4 x5 x6 a b c d e f g : Value} {t : TypeId} (h : Box W R #[x0, x1, x2, x3, x4, x5, x6] t) : Box (((((((W.setCell ⟨R, 0, none⟩ a).setCell ⟨R, 1, none⟩ b).setCell ⟨R, 2, none⟩ c).setCell ⟨R, 3, none⟩ d).setCell ⟨R, 4, none⟩ e).setCell ⟨R, 5, none⟩ f).setCell ⟨R, 6, none⟩ g) R #[a, b, c, d, e, f, g] t := by
  have h7 := ((((((h.set 0 a).set 1 b).set 2 c).set 3 d).set 4 e).set 5 f).set 6 g
  simpa using h7
theorem below7 {w W : World} {B R : Nat} {a b c d e f g : Value} (h : Below B w W) (hB : B ≤ R) : Below B w (((((((W.setCell ⟨R, 0, none⟩ a).setCell ⟨R, 1, none⟩ b).setCell ⟨R, 2, none⟩ c).setCell ⟨R, 3, none⟩ d).setCell ⟨R, 4, none⟩ e).setCell ⟨R, 5, none⟩ f).setCell ⟨R, 6, none⟩ g) :=
  ((((((h.setCell hB _).setCell hB _).setCell hB _).setCell hB _).setCell hB _).setCell hB _).setCell hB _
theorem OwnI.far7 {W : World} {base R : Nat} {v : Value} {l : List Int} {a b c d e f g : Value} (h : OwnI W base v l) (hR : R < base) : OwnI (((((((W.setCell ⟨R, 0, none⟩ a).setCell ⟨R, 1, none⟩ b).setCell ⟨R, 2, none⟩ c).setCell ⟨R, 3, none⟩ d).setCell ⟨R, 4, none⟩ e).setCell ⟨R, 5, none⟩ f).setCell ⟨R, 6, none⟩ g) base v l :=
  ((((((h.far (p := ⟨R, 0, none⟩) hR _).far (p := ⟨R, 1, none⟩) hR _).far (p := ⟨R, 2, none⟩) hR _).far (p := ⟨R, 3, none⟩) hR _).far (p := ⟨R, 4, none⟩) hR _).far (p := ⟨R, 5, none⟩) hR _).far (p := ⟨R, 6, none⟩) hR _
/-- What an operation yields. -/
inductive KJ where
  | any
  | eq (u : Value)
  | own (l : List Int)
def KJ.holds (base : Nat) (k : KJ) (v : Value) (w : World) : Prop := match k with
  | .any => True
  | .eq u => v = u
  | .own l => OwnI w base v l
def SJ (base : Nat) (K : Nat → KJ) (k : Nat) (v : Value) (w : World) : Prop := (K k).holds base v w
section
variable {base : Nat} {K : Nat → KJ} {k : Nat} {v : Value} {w w' : World}
theorem SJ.keep (h : SJ base K k v w) (hb : Below w.heap.size w w') : SJ base K k v w' := by
  unfold SJ at h ⊢
  generalize K k = κ at h ⊢
  cases κ with
  | any => trivial
  | eq u => exact h
  | own l => exact OwnI.after h hb
theorem SJ.mono (h : SJ base K k v w) (hm : ∀ l, OwnI w base v l → OwnI w' base v l) : SJ base K k v w' := by
  unfold SJ at h ⊢
  generalize K k = κ at h ⊢
  cases κ with
  | any => trivial
  | eq u => exact h
  | own l => exact hm l h
theorem SJ.far7 {R : Nat} {a b c d e f g : Value} (h : SJ base K k v w) (hR : R < base) : SJ base K k v (((((((w.setCell ⟨R, 0, none⟩ a).setCell ⟨R, 1, none⟩ b).setCell ⟨R, 2, none⟩ c).setCell ⟨R, 3, none⟩ d).setCell ⟨R, 4, none⟩ e).setCell ⟨R, 5, none⟩ f).setCell ⟨R, 6, none⟩ g) :=
  h.mono fun _ h => OwnI.far7 h hR
theorem SJ.of (κ : KJ) (hk : K k = κ) (h : κ.holds base v w) : SJ base K k v w := by unfold SJ; rw [hk]; exact h
end
/-- Block R is written over by operation i0, with cs; nothing below B turns. -/
def CJ (W0 : World) (i0 B R : Nat) (cs : Array Value) (t : TypeId) (l : Array Bool) (_ : Nat → Value) (w : World) : Prop :=
  (¬ up l i0 → Below W0.heap.size W0 w) ∧ (up l i0 → Below B W0 w ∧ Box w R cs t)
section
variable {W0 : World} {i0 B R : Nat} {cs : Array Value} {t : TypeId} {l : Array Bool} {f g : Nat → Value} {w w' : World}
theorem CJ.start {n : Nat} : CJ W0 i0 B R cs t (Array.replicate n false) f W0.drew := ⟨fun _ => below_dr (Below.refl _ _), fun h => absurd h (up_none _ _)⟩
theorem CJ.keep {i : Nat} (h : CJ W0 i0 B R cs t l f w) (hb : Below w.heap.size w w') (hi : i0 ≠ i) (hB : B ≤ W0.heap.size) : CJ W0 i0 B R cs t (l.setIfInBounds i true) g w' := by
  obtain ⟨k1, k2⟩ := h
  refine ⟨fun u => ?_, fun u => ?_⟩
  · have k := k1 (fun u' => u (up_keep u'))
    exact k.trans (hb.mono k.size)
  · obtain ⟨a, b⟩ := k2 (up_set u hi)
    exact ⟨a.trans (hb.mono (Nat.le_trans hB a.size)), b.after hb⟩
theorem CJ.put7 {x0 x1 x2 x3 x4 x5 x6 a b c d e g h : Value} (hc : CJ W0 i0 B R #[a, b, c, d, e, g, h] t l f w) (hn : ¬ up l i0) (hl : i0 < l.size) (hBR : B ≤ R) (hB : B ≤ W0.heap.size) (hbx : Box w R #[x0, x1, x2, x3, x4, x5, x6] t) {f' : Nat → Value} :
    CJ W0 i0 B R #[a, b, c, d, e, g, h] t (l.setIfInBounds i0 true) f' (((((((w.setCell ⟨R, 0, none⟩ a).setCell ⟨R, 1, none⟩ b).setCell ⟨R, 2, none⟩ c).setCell ⟨R, 3, none⟩ d).setCell ⟨R, 4, none⟩ e).setCell ⟨R, 5, none⟩ g).setCell ⟨R, 6, none⟩ h) :=
  ⟨fun u => absurd (up_self hl) u, fun _ => ⟨below7 ((hc.1 hn).mono hB) hBR, end7 hbx⟩⟩
end
end Go.Proofs.YtpaoeeamlinaaaaGreatDoor

/- Journal, walks of the reference: words. -/
import Derived.Test.YtpaoeeamlinaaaaGreatDoorQJL6
import Derived.Test.YtpaoeeamlinaaaaGreatDoorQJL2
import Derived.Test.YtpaoeeamlinaaaaGreatDoorQJU1
set_option linter.unusedVariables false
namespace Go.Proofs.YtpaoeeamlinaaaaGreatDoor
open Go.RowKit

theorem infoStr : (Tryz.prog.info? 9).map (fun i => (i.zero, i.size, i.bytes)) = some (some (.string ⟨#[]⟩), 1, 16) := by kernel_rfl
theorem fld_free {w : List UInt8} (h : ∀ c ∈ w, c ≠ 32) : fld w = [w] := by
  induction w with
  | nil => rfl
  | cons c w ih =>
    have hc : c ≠ 32 := h c (by simp)
    rw [fld, if_neg hc, ih (fun d hd => h d (by simp [hd]))]
/-- The text between two places. -/
def mid (l : List UInt8) (f i : Nat) : List UInt8 := (l.take i).drop f
theorem mid_next {l : List UInt8} {f i : Nat} (hf : f ≤ i) (hi : i < l.length) : mid l f (i + 1) = mid l f i ++ [l[i]] := by
  unfold mid
  rw [List.take_succ_eq_append_getElem hi, List.drop_append_of_le_length (by rw [List.length_take]; omega)]
theorem drop_mid {l : List UInt8} {f i : Nat} (hf : f ≤ i) (hi : i ≤ l.length) : l.drop f = mid l f i ++ l.drop i := by
  unfold mid
  conv => lhs; rw [← List.take_append_drop i l]
  rw [List.drop_append_of_le_length (by rw [List.length_take]; omega)]
def strR (x : List UInt8) : List Value := [.string (bs x)]
set_option maxRecDepth 100000 in
set_option maxHeartbeats 2000000 in
theorem rWords_c (w : World) (l : List UInt8) (hl : l.length ≤ 100000) : Calls Tryz.prog 65 #[.string (bs l)] w fun e w' => ∃ v, e = .returned v ∧ SlW w' v (fld l) ∧ Below w.heap.size w w' := by
  have hsz := bs_size l
  go_enter Tryz.func65, Tryz.ntmps65
  go_wp2_with fail
  go_loopg [3, 4, 5] (l.length + 1) (fun g o tf ti wx => ∃ (i f : Nat) (ws : List (List UInt8)), i ≤ l.length + 1 ∧ g = l.length + 1 - i ∧ f ≤ i ∧ ws.length ≤ i ∧ tf = .int .i64 (f : Int) ∧ ti = .int .i64 (i : Int) ∧
    Hid (i ≤ l.length → fld l = ws ++ fld (l.drop f) ∧ ∀ c ∈ mid l f i, c ≠ 32) ∧ Hid (i = l.length + 1 → fld l = ws) ∧ Hid (OwnC wx w.heap.size 9 1 o (ws.map strR)) ∧ Hid (Below w.heap.size w wx))
  case atStart =>
    refine ⟨0, 0, [], Nat.zero_le _, rfl, Nat.le_refl _, by simp, rfl, rfl, fun _ => ⟨by simp, fun c hc => by simp [mid] at hc⟩, fun h => absurd h (by omega), OwnC.nil _ _ _ _, Below.refl _ _⟩
  case round =>
    obtain ⟨i, f, ws, hi, rfl, hf, hws, rfl, rfl, hst, hen, hown, hbl⟩ := hrel
    obtain ⟨po, co, hso, hco⟩ := hown.out.shape
    rw [List.length_map] at hso hco
    subst hso
    have hsz2 := hbl.out.size
    by_cases hlt : i ≤ l.length
    rotate_left
    · obtain rfl : i = l.length + 1 := by omega
      have HW := Lib.hid (hen.out rfl)
      have il : ¬ ((l.length + 1 : Nat) : Int) ≤ (l.length : Int) := by omega
      have HS : Hid (SlW wr (.slice po ws.length co) ws) := by
        have h := hown.out.slc
        rw [List.length_map] at h
        obtain ⟨a, cap, e1, e2, e3, e4, e5⟩ := h
        refine ⟨a, cap, e1, e2, e3, e4, fun hn => ?_⟩
        obtain ⟨b, off, k1, k2, k3⟩ := e5 hn
        refine ⟨b, off, k1, k2, fun i hi j hj => ?_⟩
        rw [k3 i hi j hj]
        obtain rfl : j = 0 := by omega
        simp [List.getD_eq_getElem?_getD, List.getElem?_eq_getElem hi, strR]
      clear hlt hst hen
      go_wp2_with fail
      go_ret
      exact ⟨_, rfl, by rw [HW.out]; exact HS.out, hbl.out⟩
    have il : (i : Int) ≤ (l.length : Int) := by omega
    have i0 : (0 : Int) ≤ (i : Int) := by omega
    have f0 : (0 : Int) ≤ (f : Int) := by omega
    have hfi : (f : Int) ≤ (i : Int) := by omega
    by_cases hend : i = l.length ∨ ∃ h : i < l.length, l[i] = 32
    · obtain ⟨wd, hwd⟩ : ∃ wd, mid l f i = wd := ⟨_, rfl⟩
      have hx1 : (bs l).extract f i = bs wd := by rw [extract_bs]; exact congrArg bs hwd
      have HNX : Hid ((i < l.length → fld l = (ws ++ [wd]) ++ fld (l.drop (i + 1))) ∧ (i = l.length → fld l = ws ++ [wd])) := by
        obtain ⟨h1, h2⟩ := hst.out hlt
        rw [drop_mid hf hlt, hwd] at h1
        rw [hwd] at h2
        refine ⟨fun h => ?_, fun h => ?_⟩
        · have hc : l[i] = 32 := by
            rcases hend with e | ⟨_, e⟩
            · omega
            · exact e
          rw [List.drop_eq_getElem_cons h, hc, fld_app h2] at h1
          rw [h1]; simp
        · rw [h, List.drop_length, List.append_nil, fld_free h2] at h1
          exact h1
      have HRL : Hid ((ws.map strR).length ≤ 1000000) := by show _ ≤ _; rw [List.length_map]; omega
      have HOB := Lib.hid hown.out.lt
      have hcase : ((i : Int) == (l.length : Int)) = true ∨ (((i : Int) == (l.length : Int)) = false ∧ ∃ hg : i < (bs l).size, ((bs l)[i]).toNat = 32) := by
        by_cases h : i = l.length
        · left; rw [beq_iff_eq]; omega
        · right
          refine ⟨by rw [beq_eq_false_iff_ne]; omega, by rw [hsz]; omega, ?_⟩
          rcases hend with e | ⟨h', e⟩
          · exact absurd e h
          · have : (bs l)[i]'(by rw [hsz]; exact h') = l[i] := rfl
            rw [this, e]; rfl
      clear hend hwd
      rcases hcase with q1 | ⟨q1, hli, hget⟩
      · go_wp2_with (at_builtin; refine wpList_appC rfl _ _ 55 rfl w.heap.size 9 1 16 _ Tryz.underlying55 infoStr rfl (by decide) (by decide) _ (ws.map strR) (strR wd) rfl (hown.out.after (held_alloc (Below.refl _ _))) rfl (by simp [strR, Value.oneCell']) ⟨wr.heap.size, 0, none⟩ 1 rfl cells_new HRL.out ?d4 ?_)
        case d4 => simp; omega
        intro v6 w6 hown6 hf6
        have HOWN6 := Lib.hid hown6
        have HF6 := Lib.hid hf6
        clear hown6 hf6
        go_wp2_with fail
        have HW6 : Hid (Fx (fun k => some k = (Value.slice po ws.length co).ownBlock) wr w6) := ((Fx.refl _ wr).alloc _).trans HF6.out
        have HB6 : Hid (Below w.heap.size w w6) := hbl.out.trans (HW6.out.toBelow hsz2 (fun k e => (HOB.out k e).1))
        go_roundg (l.length + 1 - (i + 1))
        case measure => omega
        case rel =>
          refine ⟨i + 1, i + 1, ws ++ [wd], by omega, rfl, Nat.le_refl _, by simp; omega, by go_num, by go_num, fun h => ⟨HNX.out.1 (by omega), fun c hc => by simp [mid] at hc⟩, fun h => HNX.out.2 (by omega), by have h := HOWN6.out; rw [show ws.map strR ++ [strR wd] = (ws ++ [wd]).map strR by simp] at h; exact h, HB6.out⟩
      · go_wp2_with (at_builtin; refine wpList_appC rfl _ _ 55 rfl w.heap.size 9 1 16 _ Tryz.underlying55 infoStr rfl (by decide) (by decide) _ (ws.map strR) (strR wd) rfl (hown.out.after (held_alloc (Below.refl _ _))) rfl (by simp [strR, Value.oneCell']) ⟨wr.heap.size, 0, none⟩ 1 rfl cells_new HRL.out ?d4 ?_)
        case d4 => simp; omega
        intro v6 w6 hown6 hf6
        have HOWN6 := Lib.hid hown6
        have HF6 := Lib.hid hf6
        clear hown6 hf6
        go_wp2_with fail
        have HW6 : Hid (Fx (fun k => some k = (Value.slice po ws.length co).ownBlock) wr w6) := ((Fx.refl _ wr).alloc _).trans HF6.out
        have HB6 : Hid (Below w.heap.size w w6) := hbl.out.trans (HW6.out.toBelow hsz2 (fun k e => (HOB.out k e).1))
        go_roundg (l.length + 1 - (i + 1))
        case measure => omega
        case rel =>
          refine ⟨i + 1, i + 1, ws ++ [wd], by omega, rfl, Nat.le_refl _, by simp; omega, by go_num, by go_num, fun h => ⟨HNX.out.1 (by omega), fun c hc => by simp [mid] at hc⟩, fun h => HNX.out.2 (by omega), by have h := HOWN6.out; rw [show ws.map strR ++ [strR wd] = (ws ++ [wd]).map strR by simp] at h; exact h, HB6.out⟩
    · have hlt2 : i < l.length := by
        rcases Nat.lt_or_ge i l.length with h | h
        · exact h
        · exact absurd (.inl (by omega)) hend
      have hne : l[i] ≠ 32 := fun e => hend (.inr ⟨hlt2, e⟩)
      have q1 : ((i : Int) == (l.length : Int)) = false := by rw [beq_eq_false_iff_ne]; omega
      obtain ⟨cc, hcc⟩ : ∃ cc, (l[i]).toNat = cc := ⟨_, rfl⟩
      have hli : i < (bs l).size := by rw [hsz]; exact hlt2
      have hget : ((bs l)[i]).toNat = cc := hcc
      have hc32 : cc ≠ 32 := fun e => hne (UInt8.toNat_inj.1 (hcc.trans e))
      have q2 : ((cc : Int) == 32) = false := by rw [beq_eq_false_iff_ne]; omega
      have HMN := Lib.hid (mid_next hf hlt2)
      have HNE := Lib.hid hne
      have HLT := Lib.hid hlt2
      clear hend hne hcc hc32
      go_wp2_with fail
      go_roundg (l.length + 1 - (i + 1))
      case measure => omega
      case rel =>
        refine ⟨i + 1, f, ws, by omega, rfl, by omega, by omega, rfl, by go_num, fun h => ⟨(hst.out hlt).1, fun c hc => ?_⟩, fun h => absurd h (by have := HLT.out; omega), hown.out, hbl.out⟩
        rw [HMN.out] at hc
        rcases List.mem_append.1 hc with h | h
        · exact (hst.out hlt).2 c h
        · rw [List.mem_singleton.1 h]; exact HNE.out
end Go.Proofs.YtpaoeeamlinaaaaGreatDoor

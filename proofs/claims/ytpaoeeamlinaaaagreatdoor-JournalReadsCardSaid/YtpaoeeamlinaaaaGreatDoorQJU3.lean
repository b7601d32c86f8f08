/- Journal, walks of the reference: Read, from what read answers. -/
import Derived.Test.YtpaoeeamlinaaaaGreatDoorQJU2
set_option linter.unusedVariables false
namespace Go.Proofs.YtpaoeeamlinaaaaGreatDoor
open Go.RowKit

set_option maxRecDepth 100000 in
set_option maxHeartbeats 4000000 in
theorem rRead_of (hread : ∀ (wx : World) (line : List UInt8), line.length ≤ 100000 → Calls Tryz.prog 37 #[.string (bs line)] wx (RetRc wx line)) (w : World) (text : List UInt8) (hl : text.length ≤ 100000) :
    Calls Tryz.prog 18 #[.string (bs text)] w (RetRd w text) := by
  have HREAD := Lib.hid hread
  have htz := bs_size text
  clear hread
  go_enter Tryz.func18, Tryz.ntmps18
  go_wp2_with fail
  go_loopg [5, 6, 7] text.length (fun g o tf ti wx => ∃ (i n : Nat) (out : List Rec), i ≤ text.length ∧ g = text.length - i ∧ n ≤ i ∧ tf = .int .i64 (n : Int) ∧ ti = .int .i64 (i : Int) ∧ out.length ≤ 400 ∧ Hid (∀ c ∈ mid text n i, c ≠ 10) ∧
    Hid (readF text = readGo (text.length - n + 1) out n (text.drop n)) ∧ Hid (OwnR (IsRT wx) wx w.heap.size o out) ∧ Hid (Below w.heap.size w wx))
  case atStart => exact ⟨0, 0, [], Nat.zero_le _, rfl, Nat.le_refl _, rfl, rfl, by simp, (fun c hc => by simp [mid] at hc), by show _ = _; rfl, OwnR.nil _ _ _, Below.refl _ _⟩
  case round =>
    obtain ⟨i, n, out, hi, rfl, hni, rfl, rfl, ho, hmid, hgo, hown, hbl⟩ := hrel
    have hsz := hbl.out.size
    obtain ⟨po, co, hso, hco⟩ := hown.out.shape
    subst hso
    by_cases hlt : i < text.length
    rotate_left
    · obtain rfl : i = text.length := by omega
      have HF : Hid (readF text = (out, n, 0)) := by
        show _ = _
        rw [hgo.out, readGo_miss (cutC_none (by
          have h := drop_mid hni (Nat.le_refl text.length)
          rw [List.drop_length, List.append_nil] at h
          rw [h]; exact hmid.out))]
      clear hlt hgo
      go_wp2_with fail
      refine bodyPost_ret (v := .tuple #[.slice po out.length co, .int .i64 (n : Int), .int .i64 0]) (by simp [results, Tryz.results18, go_sem]) rfl ?_
      exact ⟨_, by rw [HF.out], by rw [HF.out]; exact hown.out, hbl.out⟩
    have il : (i : Int) < (text.length : Int) := by omega
    have i0 : (0 : Int) ≤ (i : Int) := by omega
    have n0 : (0 : Int) ≤ (n : Int) := by omega
    have hni2 : (n : Int) ≤ (i : Int) := by omega
    obtain ⟨cc, hcc⟩ : ∃ cc, (text[i]).toNat = cc := ⟨_, rfl⟩
    have hli : i < (bs text).size := by rw [htz]; exact hlt
    have hget : ((bs text)[i]).toNat = cc := hcc
    have HMN := Lib.hid (mid_next hni hlt)
    have HLT := Lib.hid hlt
    by_cases hc : cc = 10
    rotate_left
    · have q1 : ((cc : Int) == 10) = false := by rw [beq_eq_false_iff_ne]; omega
      have q2 : ((cc : Int) != 10) = true := by rw [bne, q1]; rfl
      have HNE : Hid (text[i] ≠ 10) := fun e => hc (hcc.symm.trans (congrArg UInt8.toNat e))
      clear hc hcc
      go_wp2_with fail
      go_roundg (text.length - (i + 1))
      case measure => have := HLT.out; omega
      case rel =>
        refine ⟨i + 1, n, out, by have := HLT.out; omega, rfl, by omega, rfl, by go_num, ho, fun c hc => ?_, hgo.out, hown.out, hbl.out⟩
        rw [HMN.out] at hc
        rcases List.mem_append.1 hc with h | h
        · exact hmid.out c h
        · rw [List.mem_singleton.1 h]; exact HNE.out
    have q1 : ((cc : Int) == 10) = true := by rw [beq_iff_eq]; omega
    have q2 : ((cc : Int) != 10) = false := by rw [bne, q1]; rfl
    have h10 : text[i] = 10 := UInt8.toNat_inj.1 (hcc.trans hc)
    obtain ⟨a, ha⟩ : ∃ a, mid text n i = a := ⟨_, rfl⟩
    have hx1 : (bs text).extract n i = bs a := by rw [extract_bs]; exact congrArg bs ha
    have hal : a.length = i - n := by rw [← ha]; unfold mid; rw [List.length_drop, List.length_take]; omega
    have hcut : cutC 10 (text.drop n) = some (a, text.drop (i + 1)) := by
      have hd1 : text.drop i = 10 :: text.drop (i + 1) := (List.drop_eq_getElem_cons hlt).trans (congrArg (· :: text.drop (i + 1)) h10)
      rw [drop_mid hni (by omega), hd1, ha]
      exact cutC_app (by rw [← ha]; exact hmid.out)
    have HGO : Hid (readF text = if (recP a).2 ≠ 0 then (out, n, (recP a).2) else if out.length = 400 then (out, n, 3) else readGo (text.length - (i + 1) + 1) (out ++ [(recP a).1]) (i + 1) (text.drop (i + 1))) := by
      show _ = _
      rw [hgo.out, readGo_hit hcut, ← recP_eq, readGo_fuel (text.length - n) (text.length - (i + 1) + 1) _ _ (text.drop (i + 1)) (by rw [List.length_drop]; omega) (by rw [List.length_drop]; omega), show n + a.length + 1 = i + 1 by omega]
    have hal2 : a.length ≤ 100000 := by omega
    have HAL := Lib.hid hal
    clear hc hcc h10 ha hal hcut hgo hmid
    go_wp2_with fail
    refine (HREAD.out wr a hal2).mono ?_
    rintro e w2 ⟨vr, rfl, hvr, hb2⟩
    have HB2 : Hid (Below w.heap.size w w2) := hbl.out.trans (hb2.mono hsz)
    have HO2 := Lib.hid (hown.out.after hb2)
    obtain ⟨r, er, hre⟩ : ∃ r er, recP a = (r, er) := ⟨_, _, rfl⟩
    rw [hre] at HGO hvr ⊢
    dsimp only at HGO hvr ⊢
    obtain ⟨hok, vs, va, rfl, hs2, ha2⟩ := hvr
    obtain ⟨pS, cS, rfl, _⟩ := hs2.1.2.shape
    obtain ⟨uL, huL, _⟩ := id ha2.1
    obtain ⟨pL, cL, rfl, _⟩ := huL.shape
    have HV2 : Hid (IsRT w2 (.agg (recV r (.slice pS r.steps.length cS) (.slice pL r.after.length cL))) r) := ⟨hok, _, _, rfl, hs2, ha2⟩
    clear hb2 huL hre hok hs2 ha2 hown hget hx1
    unfold recV
    have hbA : ∀ o, Below w.heap.size w (w2.alloc o) := fun o => HB2.out.alloc HB2.out.size o
    have HBA := Lib.hid hbA
    have HOA : Hid (∀ o, OwnR (IsRT (w2.alloc o)) (w2.alloc o) w.heap.size (.slice po out.length co) out) := fun o => HO2.out.after (held_alloc (Below.refl _ _))
    clear hbA
    by_cases her : er ≠ 0
    · have HF : Hid (readF text = (out, n, er)) := by show _ = _; rw [HGO.out, if_pos her]
      have p1 : (er == 0) = false := by rw [beq_eq_false_iff_ne]; exact her
      have p2 : (er != 0) = true := by rw [bne, p1]; rfl
      clear her HGO
      go_wp2_with fail
      refine bodyPost_ret (v := .tuple #[.slice po out.length co, .int .i64 (n : Int), .int .i64 er]) (by simp [results, Tryz.results18, go_sem]) rfl ?_
      exact ⟨_, by rw [HF.out], by rw [HF.out]; exact HOA.out _, HBA.out _⟩
    obtain rfl : er = 0 := by simpa using her
    clear her
    by_cases h4 : out.length = 400
    · have HF : Hid (readF text = (out, n, 3)) := by show _ = _; rw [HGO.out, if_neg (by simp), if_pos h4]
      have p1 : ((out.length : Int) == 400) = true := by rw [beq_iff_eq]; omega
      clear HGO h4
      go_wp2_with fail
      refine bodyPost_ret (v := .tuple #[.slice po out.length co, .int .i64 (n : Int), .int .i64 3]) (by simp [results, Tryz.results18, go_sem]) rfl ?_
      exact ⟨_, by rw [HF.out], by rw [HF.out]; exact HOA.out _, HBA.out _⟩
    have HF : Hid (readF text = readGo (text.length - (i + 1) + 1) (out ++ [r]) (i + 1) (text.drop (i + 1))) := by show _ = _; rw [HGO.out, if_neg (by simp), if_neg h4]
    have p1 : ((out.length : Int) == 400) = false := by rw [beq_eq_false_iff_ne]; omega
    have ho3 : out.length < 400 := by omega
    clear HGO h4 HBA HOA
    obtain ⟨W3, hW3⟩ : ∃ W3, W3 = w2.alloc (.cells #[.int .u8 (r.kind : Int), .int .i64 r.place, .int .i64 r.id, .int .i64 r.lease, .int .u8 (r.ans : Int), .slice pS r.steps.length cS, .slice pL r.after.length cL] 29) := ⟨_, rfl⟩
    have hb3 : Below w2.heap.size w2 W3 := by rw [hW3]; exact held_alloc (Below.refl _ _)
    have hx3 : Box W3 w2.heap.size #[.int .u8 (r.kind : Int), .int .i64 r.place, .int .i64 r.id, .int .i64 r.lease, .int .u8 (r.ans : Int), .slice pS r.steps.length cS, .slice pL r.after.length cL] 29 := by rw [hW3]; exact Box.new _ _ _
    have HB3 : Hid (Below w.heap.size w W3) := HB2.out.trans (hb3.mono HB2.out.size)
    have HO3 := Lib.hid (HO2.out.after hb3)
    have HV3 := Lib.hid (HV2.out.after hb3)
    clear hb3 HO2 HV2
    go_upto_region 8 with fail
    rw [← hW3]
    clear hW3
    have x0 : W3.cell? ⟨w2.heap.size, 0, none⟩ = some (.int .u8 (r.kind : Int)) := hx3.cell 0
    have x1 : W3.cell? ⟨w2.heap.size, 1, none⟩ = some (.int .i64 r.place) := hx3.cell 1
    have x2 : W3.cell? ⟨w2.heap.size, 2, none⟩ = some (.int .i64 r.id) := hx3.cell 2
    have x3 : W3.cell? ⟨w2.heap.size, 3, none⟩ = some (.int .i64 r.lease) := hx3.cell 3
    have x4 : W3.cell? ⟨w2.heap.size, 4, none⟩ = some (.int .u8 (r.ans : Int)) := hx3.cell 4
    have x5 : W3.cell? ⟨w2.heap.size, 5, none⟩ = some (.slice pS r.steps.length cS) := hx3.cell 5
    have x6 : W3.cell? ⟨w2.heap.size, 6, none⟩ = some (.slice pL r.after.length cL) := hx3.cell 6
    have xl := hx3.lt
    obtain ⟨rows, hr0, hr1, hr2⟩ := HO3.out
    have HR0 := Lib.hid hr0
    have HR1 := Lib.hid hr1
    have HR2 := Lib.hid hr2
    have HRL : Hid (rows.length ≤ 1000000) := by show _ ≤ _; omega
    have hsz3 := HB3.out.size
    clear hx3 hr0 hr1 hr2
    go_wp2_with (at_builtin; refine wpList_appC rfl _ _ 38 rfl w.heap.size 29 7 88 _ Tryz.underlying38 infoRec rfl (by decide) (by decide) _ rows [.int .u8 (r.kind : Int), .int .i64 r.place, .int .i64 r.id, .int .i64 r.lease, .int .u8 (r.ans : Int), .slice pS r.steps.length cS, .slice pL r.after.length cL] rfl (HR1.out.after (held_alloc (Below.refl _ _))) rfl (by simp [Value.oneCell']) ⟨W3.heap.size, 0, none⟩ 1 rfl cells_new HRL.out ?d4 ?_)
    case d4 => simp; omega
    intro v6 w6 hown6 hf6
    have HOWN6 := Lib.hid hown6
    have HF6 := Lib.hid hf6
    clear hown6 hf6 x0 x1 x2 x3 x4 x5 x6 xl
    go_wp2_with fail
    have HW6 : Hid (Fx (fun k => some k = (Value.slice po out.length co).ownBlock) W3 w6) := ((Fx.refl _ W3).alloc _).trans HF6.out
    have HOB : Hid (∀ k, some k = (Value.slice po out.length co).ownBlock → w.heap.size ≤ k ∧ TagB W3 k 29) := HR1.out.lt
    have HNP : Hid (NoP (fun k => some k = (Value.slice po out.length co).ownBlock) W3) := ⟨(fun k e t => by cases (HOB.out k e).2.one t), (fun k e t => by cases (HOB.out k e).2.one t), (fun k e t => by cases (HOB.out k e).2.one t)⟩
    have HO6 : Hid (OwnR (IsRT w6) w6 w.heap.size v6 (out ++ [r])) := OwnR.push HR0.out HOWN6.out (fun i hi => by
      obtain ⟨us, ua, e, k⟩ := HR2.out i hi
      exact ⟨us, ua, e, k.fx HW6.out HNP.out⟩) (HV3.out.fx HW6.out HNP.out)
    have HB6 : Hid (Below w.heap.size w w6) := HB3.out.trans (HW6.out.toBelow hsz3 (fun k e => (HOB.out k e).1))
    go_roundg (text.length - (i + 1))
    case measure => have := HLT.out; omega
    case rel => exact ⟨i + 1, i + 1, out ++ [r], by have := HLT.out; omega, rfl, Nat.le_refl _, by go_num, by go_num, by simp; omega, (fun c hc => by simp [mid] at hc), HF.out, HO6.out, HB6.out⟩
end Go.Proofs.YtpaoeeamlinaaaaGreatDoor

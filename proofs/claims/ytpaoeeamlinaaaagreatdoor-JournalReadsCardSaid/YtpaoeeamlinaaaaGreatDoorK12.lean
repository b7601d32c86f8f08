/- Journal, walks of the package: Read.
   Journal, the law's own functions: lives.
   Journal: how a law's statement follows from its walk: what the listed variables hold when the call begins; the arguments read as they did. -/
import Derived.Test.YtpaoeeamlinaaaaGreatDoorK11
import Derived.MakeChecks
import Derived.HandedShaped
import Derived.Shelf.Vars
import Derived.ChangeArms
import Derived.Lib.LaidTab
import Derived.Deep.Slices
import Derived.ProofKit
import Derived.OpenShut
import Derived.WideKeyArgs
import Derived.Test.YtpaoeeamlinaaaaGreatDoorRows
import Derived.Test.YtpaoeeamlinaaaaGreatDoorK03
set_option linter.unusedVariables false
namespace Go.Proofs.YtpaoeeamlinaaaaGreatDoor
open Go.RowKit

/-- A row of records, of the call's own; what is known of each, P. -/
def OwnR (P : Value → Rec → Prop) (w : World) (base : Nat) (v : Value) (rs : List Rec) : Prop := ∃ rows : List (List Value), rows.length = rs.length ∧ OwnC w base 29 7 v rows ∧ ∀ i, i < rs.length → ∃ vs va, rows.getD i [] = (recV (rs.getD i Rec.none) vs va).toList ∧ P (.agg (recV (rs.getD i Rec.none) vs va)) (rs.getD i Rec.none)
section
variable {P P' : Value → Rec → Prop} {w W : World} {base : Nat} {v : Value} {rs : List Rec} {S : Nat → Prop}
theorem OwnR.nil (P : Value → Rec → Prop) (w : World) (base : Nat) : OwnR P w base (.slice none 0 0) [] := ⟨[], rfl, OwnC.nil _ _ _ _, fun i hi => by simp at hi⟩
theorem OwnR.mono (h : OwnR P w base v rs) (hP : ∀ v r, P v r → P' v r) : OwnR P' w base v rs := by
  obtain ⟨rows, h0, h1, h2⟩ := h
  exact ⟨rows, h0, h1, fun i hi => by obtain ⟨vs, va, e, k⟩ := h2 i hi; exact ⟨vs, va, e, hP _ _ k⟩⟩
theorem OwnR.fx (h : OwnR P w base v rs) (hf : Fx S w W) (hS : ∀ b, S b → ¬ (base ≤ b ∧ TagB w b 29)) (hP : ∀ v r, P v r → P' v r) : OwnR P' W base v rs := by
  obtain ⟨rows, h0, h1, h2⟩ := h
  exact ⟨rows, h0, h1.fx hf hS, fun i hi => by obtain ⟨vs, va, e, k⟩ := h2 i hi; exact ⟨vs, va, e, hP _ _ k⟩⟩
theorem OwnR.after (h : OwnR (IsRT w) w base v rs) (hb : Below w.heap.size w W) : OwnR (IsRT W) W base v rs :=
  h.fx (S := fun _ => False) (Fx.of_below hb) (fun _ e => e.elim) (fun _ _ k => k.after hb)
theorem OwnR.shape (h : OwnR P w base v rs) : ∃ p c, v = .slice p rs.length c ∧ rs.length ≤ c := by
  obtain ⟨rows, h0, h1, _⟩ := h
  rw [← h0]
  exact h1.shape
theorem OwnR.slR (h : OwnR P w base v rs) (hP : ∀ v r, P v r → IsR w v r) : SlR w v rs := by
  obtain ⟨rows, h0, h1, h2⟩ := h
  have hu : ∀ i, ∃ u : Value × Value, i < rs.length → rows.getD i [] = (recV (rs.getD i Rec.none) u.1 u.2).toList ∧ P (.agg (recV (rs.getD i Rec.none) u.1 u.2)) (rs.getD i Rec.none) := by
    intro i
    by_cases hi : i < rs.length
    · obtain ⟨vs, va, e, k⟩ := h2 i hi
      exact ⟨(vs, va), fun _ => ⟨e, k⟩⟩
    · exact ⟨(undef, undef), fun h => absurd h hi⟩
  refine ⟨fun i => Classical.choose (hu i), ?_, fun i hi => hP _ _ (Classical.choose_spec (hu i) hi).2⟩
  have hs := h1.slc
  rw [h0] at hs
  obtain ⟨a, cap, e1, e2, e3, e4, e5⟩ := hs
  refine ⟨a, cap, e1, e2, e3, e4, fun hn => ?_⟩
  obtain ⟨b, off, f1, f2, f3⟩ := e5 hn
  refine ⟨b, off, f1, f2, fun i hi j hj => ?_⟩
  rw [f3 i hi j hj]
  have e := congrArg (fun l : List Value => some ((l[j]?).getD undef)) (Classical.choose_spec (hu i) hi).1
  dsimp only at e ⊢
  exact e.trans (by rw [Array.getElem?_toList])
theorem OwnR.push {v' : Value} {r : Rec} {vs va : Value} {rows : List (List Value)} (h0 : rows.length = rs.length) (h1 : OwnC W base 29 7 v' (rows ++ [(recV r vs va).toList]))
    (h2 : ∀ i, i < rs.length → ∃ vs va, rows.getD i [] = (recV (rs.getD i Rec.none) vs va).toList ∧ P' (.agg (recV (rs.getD i Rec.none) vs va)) (rs.getD i Rec.none)) (h3 : P' (.agg (recV r vs va)) r) : OwnR P' W base v' (rs ++ [r]) := by
  refine ⟨rows ++ [(recV r vs va).toList], by simp [h0], h1, fun i hi => ?_⟩
  rcases Nat.lt_or_ge i rs.length with hl | hl
  · have e1 : (rows ++ [(recV r vs va).toList]).getD i [] = rows.getD i [] := by rw [List.getD_eq_getElem?_getD, List.getElem?_append_left (by omega), ← List.getD_eq_getElem?_getD]
    have e2 : (rs ++ [r]).getD i Rec.none = rs.getD i Rec.none := by rw [List.getD_eq_getElem?_getD, List.getElem?_append_left hl, ← List.getD_eq_getElem?_getD]
    rw [e1, e2]
    exact h2 i hl
  · obtain rfl : i = rs.length := by simp at hi; omega
    have e1 : (rows ++ [(recV r vs va).toList]).getD rs.length [] = (recV r vs va).toList := by rw [List.getD_eq_getElem?_getD, ← h0]; simp
    have e2 : (rs ++ [r]).getD rs.length Rec.none = r := by rw [List.getD_eq_getElem?_getD]; simp
    rw [e1, e2]
    exact ⟨vs, va, rfl, h3⟩
end
theorem infoRec : (Tryz.prog.info? 29).map (fun i => (i.zero, i.size, i.bytes)) = some (some (.agg #[.int .u8 0, .int .i64 0, .int .i64 0, .int .i64 0, .int .u8 0, .slice none 0 0, .slice none 0 0]), 7, 88) := by kernel_rfl
theorem readGo_hit {k : Nat} {out : List Rec} {n : Nat} {rest a b : List UInt8} (h : cutC 10 rest = some (a, b)) : readGo (k + 1) out n rest = if (recF a).2 ≠ 0 then (out, n, (recF a).2) else if out.length = 400 then (out, n, 3) else readGo k (out ++ [(recF a).1]) (n + a.length + 1) b := by
  rw [readGo, h]
theorem readGo_miss {k : Nat} {out : List Rec} {n : Nat} {rest : List UInt8} (h : cutC 10 rest = none) : readGo (k + 1) out n rest = (out, n, 0) := by
  rw [readGo, h]
def RetRd (w : World) (text : List UInt8) (e : Ending) (w' : World) : Prop := ∃ v, e = .returned (.tuple #[v, .int .i64 ((readF text).2.1 : Int), .int .i64 (readF text).2.2]) ∧ OwnR (IsRT w') w' w.heap.size v (readF text).1 ∧ Below w.heap.size w w'

set_option maxRecDepth 100000 in
set_option maxHeartbeats 4000000 in
theorem Read_c (w : World) (text : List UInt8) (hl : text.length ≤ 900000) (he : Env w) : Calls Tryz.prog 17 #[.string (bs text)] w (RetRd w text) := by
  have HE := Lib.hid he
  have htz := bs_size text
  clear he
  go_enter Tryz.func17, Tryz.ntmps17
  go_wp2_with fail
  go_loopg [5, 6] text.length (fun g o t wx => ∃ (rest : List UInt8) (out : List Rec), g = rest.length ∧ t = .string (bs rest) ∧ rest.length ≤ text.length ∧ out.length ≤ 400 ∧ Hid (readF text = readGo (rest.length + 1) out (text.length - rest.length) rest) ∧ Hid (OwnR (IsRT wx) wx w.heap.size o out) ∧ Hid (Below w.heap.size w wx))
  case atStart => exact ⟨text, [], rfl, rfl, Nat.le_refl _, by simp, by show _ = _; rw [Nat.sub_self]; rfl, OwnR.nil _ _ _, Below.refl _ _⟩
  case round =>
    obtain ⟨rest, out, rfl, rfl, hr, ho, hgo, hown, hbl⟩ := hrel
    have hsz := hbl.out.size
    have hrz := bs_size rest
    obtain ⟨n, hn⟩ : ∃ n : Nat, text.length - rest.length = n := ⟨_, rfl⟩
    rw [hn] at hgo
    have hsub : (text.length : Int) - (rest.length : Int) = (n : Int) := by omega
    have HN := Lib.hid hn
    have hn63 : n ≤ 900000 := by omega
    clear hn
    rcases hc : cutC 10 rest with _ | ⟨a, b⟩
    · have HF : Hid (readF text = (out, n, 0)) := by
        show _ = _
        rw [hgo.out, readGo_miss hc]
      have HC := Lib.hid (cut_c wr 10 rest (by omega) (HE.out.after hbl.out))
      rw [show cutT 10 rest = (rest, [], false) from by unfold cutT; rw [hc]] at HC
      clear hc hgo
      go_wp2_with fail
      refine HC.out.mono ?_
      rintro e w1 ⟨rfl, hb1⟩
      have HB1 : Hid (Below w.heap.size w w1) := hbl.out.trans (hb1.mono hsz)
      have HO1 := Lib.hid (hown.out.after hb1)
      obtain ⟨po, co, rfl, hco⟩ := hown.out.shape
      clear hb1 hown
      go_wp2_with fail
      refine bodyPost_ret (v := .tuple #[.slice po out.length co, .int .i64 (n : Int), .int .i64 0]) (by simp [results, Tryz.results17, go_sem]) rfl ?_
      exact ⟨_, by rw [HF.out], by rw [HF.out]; exact HO1.out, HB1.out⟩
    · have hrl : rest = a ++ 10 :: b := (index_some hc).2
      have hlen : rest.length = a.length + (b.length + 1) := by rw [hrl]; simp
      have HC := Lib.hid (cut_c wr 10 rest (by omega) (HE.out.after hbl.out))
      rw [show cutT 10 rest = (a, b, true) from by unfold cutT; rw [hc]] at HC
      have HGO : Hid (readF text = if (recP a).2 ≠ 0 then (out, n, (recP a).2) else if out.length = 400 then (out, n, 3) else readGo (b.length + 1) (out ++ [(recP a).1]) (n + a.length + 1) b) := by
        show _ = _
        rw [hgo.out, readGo_hit hc, ← recP_eq, readGo_fuel rest.length (b.length + 1) _ _ b (by omega) (by omega)]
      have HLEN := Lib.hid hlen
      have hal : a.length ≤ 900000 := by omega
      clear hc hgo hrl hlen
      go_wp2_with fail
      refine HC.out.mono ?_
      rintro e w1 ⟨rfl, hb1⟩
      have HB1 : Hid (Below w.heap.size w w1) := hbl.out.trans (hb1.mono hsz)
      have HO1 := Lib.hid (hown.out.after hb1)
      obtain ⟨po, co, rfl, hco⟩ := hown.out.shape
      clear hb1 hown
      go_wp2_with fail
      refine (record_c w1 a hal (HE.out.after HB1.out)).mono ?_
      rintro e w2 ⟨vr, rfl, hvr, hb2⟩
      have HB2 : Hid (Below w.heap.size w w2) := HB1.out.trans (hb2.mono HB1.out.size)
      have HO2 := Lib.hid (HO1.out.after hb2)
      obtain ⟨r, er, hre⟩ : ∃ r er, recP a = (r, er) := ⟨_, _, rfl⟩
      rw [hre] at HGO hvr ⊢
      dsimp only at HGO hvr ⊢
      obtain ⟨hok, vs, va, rfl, hs2, ha2⟩ := hvr
      obtain ⟨pS, cS, rfl, _⟩ := hs2.1.2.shape
      obtain ⟨uL, huL, _⟩ := id ha2.1
      obtain ⟨pL, cL, rfl, _⟩ := huL.shape
      have HV2 : Hid (IsRT w2 (.agg (recV r (.slice pS r.steps.length cS) (.slice pL r.after.length cL))) r) := ⟨hok, _, _, rfl, hs2, ha2⟩
      clear hb2 HO1 huL hre hok hs2 ha2
      unfold recV
      by_cases her : er ≠ 0
      · have HF : Hid (readF text = (out, n, er)) := by show _ = _; rw [HGO.out, if_pos her]
        have p1 : (er == 0) = false := by rw [beq_eq_false_iff_ne]; exact her
        have p2 : (er != 0) = true := by rw [bne, p1]; rfl
        clear her HGO
        have hbA : ∀ o, Below w.heap.size w (w2.alloc o) := fun o => HB2.out.alloc HB2.out.size o
        have HBA := Lib.hid hbA
        have HOA : Hid (∀ o, OwnR (IsRT (w2.alloc o)) (w2.alloc o) w.heap.size (.slice po out.length co) out) := fun o => HO2.out.after (held_alloc (Below.refl _ _))
        clear hbA
        go_wp2_with fail
        refine bodyPost_ret (v := .tuple #[.slice po out.length co, .int .i64 (n : Int), .int .i64 er]) (by simp [results, Tryz.results17, go_sem]) rfl ?_
        exact ⟨_, by rw [HF.out], by rw [HF.out]; exact HOA.out _, HBA.out _⟩
      · obtain rfl : er = 0 := by simpa using her
        clear her
        by_cases h4 : out.length = 400
        · have HF : Hid (readF text = (out, n, 3)) := by show _ = _; rw [HGO.out, if_neg (by simp), if_pos h4]
          have p1 : ((out.length : Int) == 400) = true := by rw [beq_iff_eq]; omega
          clear HGO h4
          have hbA : ∀ o, Below w.heap.size w (w2.alloc o) := fun o => HB2.out.alloc HB2.out.size o
          have HBA := Lib.hid hbA
          have HOA : Hid (∀ o, OwnR (IsRT (w2.alloc o)) (w2.alloc o) w.heap.size (.slice po out.length co) out) := fun o => HO2.out.after (held_alloc (Below.refl _ _))
          clear hbA
          go_wp2_with fail
          refine bodyPost_ret (v := .tuple #[.slice po out.length co, .int .i64 (n : Int), .int .i64 3]) (by simp [results, Tryz.results17, go_sem]) rfl ?_
          exact ⟨_, by rw [HF.out], by rw [HF.out]; exact HOA.out _, HBA.out _⟩
        · have HF : Hid (readF text = readGo (b.length + 1) (out ++ [r]) (n + a.length + 1) b) := by show _ = _; rw [HGO.out, if_neg (by simp), if_neg h4]
          have p1 : ((out.length : Int) == 400) = false := by rw [beq_eq_false_iff_ne]; omega
          have ho3 : out.length < 400 := by omega
          clear HGO h4
          obtain ⟨W3, hW3⟩ : ∃ W3, W3 = w2.alloc (.cells #[.int .u8 (r.kind : Int), .int .i64 r.place, .int .i64 r.id, .int .i64 r.lease, .int .u8 (r.ans : Int), .slice pS r.steps.length cS, .slice pL r.after.length cL] 29) := ⟨_, rfl⟩
          have hb3 : Below w2.heap.size w2 W3 := by rw [hW3]; exact held_alloc (Below.refl _ _)
          have hx3 : Box W3 w2.heap.size #[.int .u8 (r.kind : Int), .int .i64 r.place, .int .i64 r.id, .int .i64 r.lease, .int .u8 (r.ans : Int), .slice pS r.steps.length cS, .slice pL r.after.length cL] 29 := by rw [hW3]; exact Box.new _ _ _
          have HB3 : Hid (Below w.heap.size w W3) := HB2.out.trans (hb3.mono HB2.out.size)
          have HO3 := Lib.hid (HO2.out.after hb3)
          have HV3 := Lib.hid (HV2.out.after hb3)
          clear hb3 HO2 HV2
          go_upto_region 7 with fail
          rw [← hW3]
          clear hW3
          have x0 : W3.cell? ⟨w2.heap.size, 0, none⟩ = some (.int .u8 (r.kind : Int)) := hx3.cell 0
          have x1 : W3.cell? ⟨w2.heap.size, 1, none⟩ = some (.int .i64 r.place) := hx3.cell 1
          have x2 : W3.cell? ⟨w2.heap.size, 2, none⟩ = some (.int .i64 r.id) := hx3.cell 2
          have x3 : W3.cell? ⟨w2.heap.size, 3, none⟩ = some (.int .i64 r.lease) := hx3.cell 3
          have x4 : W3.cell? ⟨w2.heap.size, 4, none⟩ = some (.int .u8 (r.ans : Int)) := hx3.cell 4
          have x5 : W3.cell? ⟨w2.heap.size, 5, none⟩ = some (.slice pS r.steps.length cS) := hx3.cell 5
          have x6 : W3.cell? ⟨w2.heap.size, 6, none⟩ = some (.slice pL r.after.length cL) := hx3.cell 6
          have xl := hx3.lt
          obtain ⟨rows, hr0, hr1, hr2⟩ := HO3.out
          have HR0 := Lib.hid hr0
          have HR1 := Lib.hid hr1
          have HR2 := Lib.hid hr2
          have HRL : Hid (rows.length ≤ 1000000) := by show _ ≤ _; omega
          have hsz3 := HB3.out.size
          clear hx3 hr0 hr1 hr2
          go_wp2_with (at_builtin; refine wpList_appC rfl _ _ 38 rfl w.heap.size 29 7 88 _ Tryz.underlying38 infoRec rfl (by decide) (by decide) _ rows [.int .u8 (r.kind : Int), .int .i64 r.place, .int .i64 r.id, .int .i64 r.lease, .int .u8 (r.ans : Int), .slice pS r.steps.length cS, .slice pL r.after.length cL] rfl (HR1.out.after (held_alloc (Below.refl _ _))) rfl (by simp [Value.oneCell']) ⟨W3.heap.size, 0, none⟩ 1 rfl cells_new HRL.out ?d4 ?_)
          case d4 => simp; omega
          intro v6 w6 hown6 hf6
          have HOWN6 := Lib.hid hown6
          have HF6 := Lib.hid hf6
          clear hown6 hf6 x0 x1 x2 x3 x4 x5 x6 xl
          go_wp2_with fail
          have HW6 : Hid (Fx (fun k => some k = (Value.slice po out.length co).ownBlock) W3 w6) := ((Fx.refl _ W3).alloc _).trans HF6.out
          have HOB : Hid (∀ k, some k = (Value.slice po out.length co).ownBlock → w.heap.size ≤ k ∧ TagB W3 k 29) := HR1.out.lt
          have HNP : Hid (NoP (fun k => some k = (Value.slice po out.length co).ownBlock) W3) := ⟨(fun k e t => by cases (HOB.out k e).2.one t), (fun k e t => by cases (HOB.out k e).2.one t), (fun k e t => by cases (HOB.out k e).2.one t)⟩
          have HO6 : Hid (OwnR (IsRT w6) w6 w.heap.size v6 (out ++ [r])) := OwnR.push HR0.out HOWN6.out (fun i hi => by
            obtain ⟨us, ua, e, k⟩ := HR2.out i hi
            exact ⟨us, ua, e, k.fx HW6.out HNP.out⟩) (HV3.out.fx HW6.out HNP.out)
          have HB6 : Hid (Below w.heap.size w w6) := HB3.out.trans (HW6.out.toBelow hsz3 (fun k e => (HOB.out k e).1))
          go_roundg b.length
          case measure => have := HLEN.out; omega
          case rel =>
            refine ⟨b, out ++ [r], rfl, rfl, by have := HLEN.out; omega, by simp; omega, ?_, HO6.out, HB6.out⟩
            show _ = _
            rw [HF.out]
            have h1 := HLEN.out
            have h2 := HN.out
            rw [show text.length - b.length = n + a.length + 1 by omega]
end Go.Proofs.YtpaoeeamlinaaaaGreatDoor

namespace Go.Proofs.YtpaoeeamlinaaaaGreatDoor
open Go.RowKit

def endR : Rec := ⟨5, 0, 0, 0, 0, [], []⟩
def endL : List UInt8 := [101, 110, 100, 32, 35, 55, 52, 57, 10]
theorem dd749 : dd 749 = [55, 52, 57] := by
  rw [dd_big (by omega), dd_big (by omega), dd_small (by omega)]; decide
theorem endR_can : CanW endR := by decide
theorem endR_line : lineT endR = endL := by
  have h : frontT endR = [101, 110, 100, 32] := by decide
  unfold lineT
  rw [h, show sumT [101, 110, 100, 32] = 749 by decide, dd749]
  rfl
theorem lineF_end : lineF endR = (endL, 0) := by unfold lineF; rw [if_pos endR_can, endR_line]
theorem read_end : readF (endL ++ [101, 110]) = ([endR], 9, 0) := by
  have h := read_lines (l := [endR]) (out := []) (n := 0) (k := (endL ++ [101, 110]).length + 1) (rest := [101, 110]) (fun r hr => by rw [List.mem_singleton.1 hr]; exact endR_can) (by simp) (by simp [endR_line])
  unfold readF
  simp only [List.flatMap_cons, List.flatMap_nil, List.append_nil, endR_line, List.nil_append] at h
  rw [h, read_torn (by decide)]
  rfl
def badL : List UInt8 := [101, 110, 100, 32, 35, 55, 53, 48, 10]
theorem read_bad17 : (readF badL).2.2 = 17 := by
  unfold readF
  have hc : cutC 10 badL = some ([101, 110, 100, 32, 35, 55, 53, 48], []) := by decide
  have hr : recF [101, 110, 100, 32, 35, 55, 53, 48] = (Rec.none, 17) := by
    unfold recF
    rw [show cutC 35 [101, 110, 100, 32, 35, 55, 53, 48] = some ([101, 110, 100, 32], [55, 53, 48]) by decide]
    simp only
    rw [if_neg (by decide), show numF [55, 53, 48] = some 750 by decide]
    simp only
    rw [if_pos (by decide)]
  rw [readGo_hit hc, hr, if_pos (by simp)]
theorem endR_is (w : World) : IsR w (.agg #[.int .u8 5, .int .i64 0, .int .i64 0, .int .i64 0, .int .u8 0, .slice none 0 0, .slice none 0 0]) endR :=
  ⟨⟨by decide, by constructor <;> decide, by constructor <;> decide, by constructor <;> decide, by decide⟩, _, _, rfl, SlS.nil w, SlL.nil w⟩

set_option maxRecDepth 100000 in
set_option maxHeartbeats 2000000 in
theorem lives_c (w : World) (he : Env w) : Calls Tryz.prog 10 #[] w (RetB w true) := by
  have HE := Lib.hid he
  clear he
  obtain ⟨TE, hTE, HTE⟩ : ∃ TE, (⟨#[101, 110, 100, 32, 35, 55, 52, 57, 10]⟩ : ByteArray) = bs TE ∧ Hid (TE = endL) := ⟨_, rfl, rfl⟩
  obtain ⟨TA, hTA, HTA⟩ : ∃ TA, (⟨#[101, 110, 100, 32, 35, 55, 52, 57, 10, 101, 110]⟩ : ByteArray) = bs TA ∧ Hid (TA = endL ++ [101, 110]) := ⟨_, rfl, Lib.hid (by decide)⟩
  obtain ⟨TB, hTB, HTB⟩ : ∃ TB, (⟨#[101, 110, 100, 32, 35, 55, 53, 48, 10]⟩ : ByteArray) = bs TB ∧ Hid (TB = badL) := ⟨_, rfl, rfl⟩
  go_enter Tryz.func10, Tryz.ntmps10
  go_wp2_with fail
  refine (Line_c w _ endR (endR_is w) HE.out).mono ?_
  unfold RetL
  rw [lineF_end, ← show TE = endL from HTE.out]
  rintro e w1 ⟨rfl, hb1⟩
  have HB1 := Lib.hid hb1
  clear hb1
  dsimp only
  go_wp2_with fail
  refine (Read_c w1 TA (by rw [HTA.out]; decide) (HE.out.after HB1.out)).mono ?_
  unfold RetRd
  rw [show readF TA = ([endR], 9, 0) from by rw [HTA.out]; exact read_end]
  rintro e w2 ⟨v, rfl, hv, hb2⟩
  have HB2 : Hid (Below w.heap.size w w2) := HB1.out.trans (hb2.mono HB1.out.size)
  obtain ⟨u, hu, hel⟩ := hv.slR (fun _ _ k => k.is)
  clear hb2 hv
  dsimp only
  go_wp2_with fail
  refine (Read_c w2 TB (by rw [HTB.out]; decide) (HE.out.after HB2.out)).mono ?_
  unfold RetRd
  rw [show (readF TB).2.2 = 17 from by rw [HTB.out]; exact read_bad17]
  obtain ⟨n2, hn2⟩ : ∃ (n2 : Nat), (readF TB).2.1 = n2 := ⟨_, rfl⟩
  rw [hn2]
  clear hn2
  rintro e w3 ⟨v3, rfl, _, hb3⟩
  have HB3 : Hid (Below w.heap.size w w3) := HB2.out.trans (hb3.mono HB2.out.size)
  obtain ⟨b, off, cap, rfl, h1, h2, hbl, hc⟩ := (hu.after hb3).at_ (by simp)
  have y0 : w3.cell? ⟨b, off, none⟩ = some (.int .u8 5) := by have := hc 0 (by simp) 0 (by omega); simpa [recV, endR] using this
  clear hb3 hc hu hel
  have he1 : ((bs TE).toList == (bs TE).toList) = true := by simp
  dsimp only
  go_wp2_with fail
  go_ret
  exact ⟨rfl, HB3.out⟩
end Go.Proofs.YtpaoeeamlinaaaaGreatDoor

namespace Go.Proofs.YtpaoeeamlinaaaaGreatDoor
open Go.ChangeShapes Go.WideShapes Go.ChangeAt Go.RowKit Go.Deep

/-- The variables that the rows list. -/
def laidJ : List (String × DataW Unit) := [("math/bits.deBruijn32tab", Rows.laid_math_bits_deBruijn32tab), ("math/bits.deBruijn64tab", Rows.laid_math_bits_deBruijn64tab), ("internal/strconv.uint64pow10", Rows.laid_internal_strconv_uint64pow10), ("unicode/utf8.acceptRanges", Rows.laid_unicode_utf8_acceptRanges), ("strconv.ErrRange", Rows.laid_strconv_ErrRange), ("strconv.ErrSyntax", Rows.laid_strconv_ErrSyntax), ("majordomo/journal.words", Rows.laid_majordomo_journal_words), ("unicode/utf8.first", Rows.laid_unicode_utf8_first)]
theorem tab_data : (Rows.laid_internal_strconv_uint64pow10 : DataW Unit) = Lib.tabData .u64 Lib.pow10Tab := by rfl
theorem cells_str : Tryz.prog.cellsOf 9 = 1 := by kernel_rfl
theorem words_of {W : World} {fuel : Nat} {cs : Array Value} {p : List MemPlace} (h : DataW.trod (fun _ => ()) Tryz.prog W 0 (fun _ => true) false fuel 55 cs.toList = some (Rows.laid_majordomo_journal_words, p)) :
    ∃ b off cap, cs = #[.slice (some ⟨b, off, none⟩) 6 cap] ∧ 6 ≤ cap ∧ cap ≤ 9223372036854775807 ∧ b < W.heap.size ∧ ∀ i, i < 6 → W.cell? ⟨b, off + i, none⟩ = some (.string (bs (wordK i))) := by
  rcases DataW.trod_slice Tryz.underlying55 h with ⟨_, hx⟩ | ⟨a, len, cap, elems, rest, n, _, hcs, hx, _, hl, hm, hel, hi, _, _⟩
  · cases hx
  · have hd : (DataW.slice (elems.map (·.1)) (rest.map (·.1)) : DataW Unit) = Rows.laid_majordomo_journal_words := (Prod.mk.inj hx).1.symm
    unfold Rows.laid_majordomo_journal_words at hd
    injection hd with hd1 _
    have hlen : len = 6 := by
      have := congrArg List.length hd1
      simp at this
      omega
    subst hlen
    have hwd : ∀ i, i < 6 → (elems.map (·.1))[i]? = some (.lit (.string (wordK i))) := fun i hi => by
      rw [hd1]
      match i, hi with
      | 0, _ => rfl
      | 1, _ => rfl
      | 2, _ => rfl
      | 3, _ => rfl
      | 4, _ => rfl
      | 5, _ => rfl
    have hcell : ∀ i, i < 6 → W.cell? (a.add i) = some (.string (bs (wordK i))) := fun i hi6 => by
      have h1 := hi i hi6
      have h2 := hwd i hi6
      rw [List.getElem?_map] at h2
      obtain ⟨e, he, he2⟩ := Option.map_eq_some_iff.1 h2
      rw [he, cells_str, Nat.mul_one] at h1
      obtain ⟨cs', hc', ht'⟩ := Option.bind_eq_some_iff.1 h1
      obtain ⟨_, hln, hat⟩ := World.cells?_some hc'
      obtain ⟨s, rfl, hs, _⟩ := DataW.trod_string Tryz.underlying9 ht'
      have h3 := hat 0 (by omega)
      rw [show (a.add i).add 0 = a.add i from by rw [Go.Deep.add_add]; rfl] at h3
      rw [h3]
      have h4 : s.data.toList = wordK i := by
        rw [hs] at he2
        injection he2 with he2
        injection he2
      have h5 : bs (wordK i) = s := by rw [← h4]; rfl
      rw [h5]
      rfl
    have hs : a.spot = none := by
      have := hcell 0 (by omega)
      simpa [Addr.add] using World.cell?_spot this
    obtain ⟨b, off, spot⟩ := a
    simp only at hs
    subst hs
    refine ⟨b, off, cap, ?_, hl, by unfold maxLen at hm; exact hm, ?_, fun i hi6 => ?_⟩
    · obtain ⟨l⟩ := cs
      simp only at hcs
      rw [hcs]
    · have := hcell 0 (by omega)
      rw [show (⟨b, off, none⟩ : Addr).add 0 = ⟨b, off, none⟩ from by unfold Addr.add; split <;> simp_all] at this
      exact World.block_lt_of_cell? _ _ this
    · have := hcell i hi6
      rwa [show (⟨b, off, none⟩ : Addr).add i = ⟨b, off + i, none⟩ from by unfold Addr.add; split <;> simp_all] at this
theorem env_of {W : World} (h : laidMetH Tryz.prog laidJ W) (hsh : W.ShapedOpen Tryz.prog) : Env W := by
  rw [MakeChecks.laidMetH_plain _ _ _ (by kernel_rfl)] at h
  obtain ⟨ps, h1, _, _⟩ := h
  obtain ⟨_, _, _, _, _, _, _, _, _, _, h2, _⟩ := h1
  obtain ⟨_, _, _, _, _, _, _, _, _, _, h3, _⟩ := h2
  obtain ⟨g3, t3, cs3, f3, p3, q3, hg3, ht3, hv3, hd3, h4, _⟩ := h3
  obtain ⟨_, _, _, _, _, _, _, _, _, _, h5, _⟩ := h4
  obtain ⟨_, _, _, _, _, _, _, _, _, _, h6, _⟩ := h5
  obtain ⟨_, _, _, _, _, _, _, _, _, _, h7, _⟩ := h6
  obtain ⟨g7, t7, cs7, f7, p7, q7, hg7, ht7, hv7, hd7, _, _⟩ := h7
  obtain rfl := Option.some.inj ((show Tryz.prog.globalNamed "internal/strconv.uint64pow10" = some 2 by kernel_rfl).symm.trans hg3)
  obtain rfl := Option.some.inj ((show Tryz.prog.globalNamed "majordomo/journal.words" = some 0 by kernel_rfl).symm.trans hg7)
  obtain rfl := Option.some.inj ((show (Tryz.prog.globals[0]?).map (·.type) = some 55 by kernel_rfl).symm.trans ht7)
  obtain rfl := Option.some.inj ((show (Tryz.prog.globals[2]?).map (·.type) = some 139 by kernel_rfl).symm.trans ht3)
  obtain ⟨b, off, cap, rfl, w2, w3, w4, w5⟩ := words_of hd7
  refine ⟨?_, ?_, b, off, cap, ?_, w2, w3, w4, w5⟩
  · unfold Lib.TabIs
    rw [tab_data] at hd3
    rw [hv3, ← Lib.cells_of_tab Tryz.underlying139 Tryz.underlying118 (by kernel_rfl) (by kernel_rfl) hd3]
  · exact cell_of_shapedOpen_int (P := Tryz.prog) (g := 1) (t := 3) (zero := #[.int .i64 0]) hsh (of_decide_eq_true (by kernel_rfl)) (by kernel_rfl) rfl (by kernel_rfl) (by kernel_rfl) Tryz.underlying3
  · have hc : ∀ c, W.var? Tryz.prog "majordomo/journal.words" = some #[c] → W.cell? ⟨0, 0, none⟩ = some c := by
      intro c hv
      unfold World.var? at hv
      rw [hg7] at hv
      simp only [Option.bind_some] at hv
      rcases hh : W.heap[0]? with _ | o
      · rw [hh] at hv; cases hv
      · rw [hh] at hv
        cases o with
        | cells cs t fz =>
          simp only [Option.some.injEq] at hv
          subst hv
          simp [World.cell?, hh]
        | _ => cases hv
    exact hc _ hv7
theorem law_own : ownKnob Tryz.prog.godebug = none := by kernel_rfl
theorem law_laid : laidOutB Tryz.prog = true := by kernel_rfl

theorem trodAll_stays {H : Type} {enc : TypeId × Value → H} {P : Program} (hl : laidOutB P = true) {W W' : World} {sp' : Nat → Bool} : ∀ {ts : List TypeId} {vs : List Value} {ds : List (DataW H)} {ps : List MemPlace},
    (∀ t ∈ ts, P.readableRec t = true ∧ t < P.types.size) → DataW.TrodAll enc P W 0 (fun _ => true) true ts vs ds ps → (∀ p ∈ ps, W.sameAt W' p) → (∀ p ∈ ps, sp' p.block = true) → DataW.TrodAll enc P W' 0 sp' true ts vs ds ps
  | [], vs, ds, ps, _, h, _, _ => by
    obtain ⟨rfl, rfl, rfl⟩ := trodAll_nil h
    exact trodAll_mk0
  | t :: ts, vs, ds, ps, hr, h, h1, h2 => by
    obtain ⟨v, vs', d, ds', p, q, rfl, rfl, rfl, hv, hrest⟩ := trodAll_cons h
    obtain ⟨r1, r2⟩ := hr t (List.mem_cons.2 (.inl rfl))
    exact trodAll_cons_mk (WideElems.Trod_stays hl r1 r2 hv (fun x hx => h1 x (List.mem_append_left _ hx)) (fun x hx => h2 x (List.mem_append_left _ hx)))
      (trodAll_stays hl (fun t ht => hr t (List.mem_cons.2 (.inr ht))) hrest (fun x hx => h1 x (List.mem_append_right _ hx)) (fun x hx => h2 x (List.mem_append_right _ hx)))

theorem law_types {P : Program} {ts : List TypeId} (h : (ts.all fun t => P.readableRec t && decide (t < P.types.size)) = true) : ∀ t ∈ ts, P.readableRec t = true ∧ t < P.types.size := by
  intro t ht
  have := List.all_eq_true.1 h t ht
  simpa using this

/-- The end of a law's proof. -/
theorem law_post {H : Type} {enc : TypeId × Value → H} {P : Program} {f : Func} {s : ChangeSpec} {W W' : World} {args : Array Value} {ds gs : List (DataW H)} {before : List MemPlace} {tb : TypeId}
    (hl : laidOutB P = true) (hts : ∀ t ∈ f.params.toList, P.readableRec t = true ∧ t < P.types.size) (hvars : s.vars = []) (hres : f.resultTypes = #[tb]) (htb : P.underlying tb = some .bool)
    (hspec : s.fn H ds = { results := [.lit (.bool true)], args := ds, vars := [] }) (hW : DataW.Whole enc P f.params.toList s.vars false W args.toList ds gs before) (hb : Below W.heap.size W W') :
    s.post enc P f false true false false W args (.bool true) W' := by
  have hW' := hW
  have hlt : ∀ p ∈ before, p.block < W.heap.size := fun p hp => hW.lt p hp
  obtain ⟨p, q, hA, hV, rfl, _, _⟩ := hW
  rw [hvars] at hV
  obtain ⟨rfl, rfl⟩ := trodVars_none hV
  have hsp : s.fn H (ds ++ []) = { results := [.lit (.bool true)], args := ds, vars := [] } := by rw [List.append_nil]; exact hspec
  refine ⟨ds, [], p ++ [], [], p, [], hW', ?_, ?_, ?_, hb.frame _, fun h => by cases h⟩
  · rw [hsp, hres]
    exact trodAll_cons_mk (shut_bool htb true) trodAll_mk0
  · rw [hsp]
    exact trodAll_stays hl hts hA (fun x hx => hb.same (hlt x (by simpa using hx))) (fun x hx => by simpa using hlt x (by simpa using hx))
  · rw [hsp, hvars]; rfl

/-- From the walk to the row's statement, for a row that lists variables, with the shape of the world at hand. -/
theorem handed_laid_shaped {H : Type} {enc : TypeId × Value → H} {a : Assume} {C : Checked} {os : Os} {f : FuncId} {fn : Func} {s : ChangeSpec} {conds : List PathCond} {apart fresh handsOn again : Bool} {X : World → Array Value → Prop}
    (hX : ∀ (w w' : World) (args : Array Value), w.heap = w'.heap → X w args → X w' args)
    (own : ownKnob C.prog.godebug = none) (started : os.Started) (noInit : C.prog.inits.idxOf? f = none) (hfn : C.prog.funcs[f]? = some fn)
    (witness : ∃ (w : World) (tape : Tape) (i : Input), w.os = os ∧ (w.forCall tape i).Shaped C.prog ∧ i.vars = [] ∧ Input.okWide C.prog (w.forCall tape i) .any w.heap.size f i ∧
      ((s.pre enc C.prog fn conds apart (w.forCall tape i).memory i.args ∧ X (w.forCall tape i).memory i.args) ∧ sizedMet enc C.prog fn (OpenSpec.ofChange s) apart (w.forCall tape i).memory i.args) ∧ a.holds C.prog (lone (Frame.enter C.prog f i.args .normal) [] (w.forCall tape i)))
    (contract : ∀ (W : World) (base : Nat) (args : Array Value) (ds gs : List (DataW H)) (before : List MemPlace),
      (∀ (j : Nat) t v, fn.params[j]? = some t → args[j]? = some v → Value.okWide C.prog W .any base t v) →
      DataW.Whole enc C.prog fn.params.toList s.vars apart W args.toList ds gs before → X W args → W.ShapedOpen C.prog →
      Calls C.prog f args W fun e W' => ∃ v, e = .returned v ∧ s.post enc C.prog fn apart fresh handsOn again W args v W') :
    ReturnsInHanded a C os f .any (fun w args => (s.pre enc C.prog fn conds apart w args ∧ X w args) ∧ sizedMet enc C.prog fn (OpenSpec.ofChange s) apart w args) (s.post enc C.prog fn apart fresh handsOn again) := by
  refine returnsInHanded_of_calls own started noInit witness ?_
  intro w tape i _ hsh _ hok hpre _
  obtain ⟨_, _, _, fn', hfn', _, _, _, _, hval⟩ := hok
  have e : fn' = fn := Option.some.inj (hfn'.symm.trans hfn)
  subst e
  obtain ⟨⟨⟨ds, gs, before, hw, _⟩, hx⟩, _⟩ := hpre
  have hw' := DataW.Whole.of_heap (w' := w.forCall tape i) (by rfl) hw
  refine (contract (w.forCall tape i) w.heap.size i.args ds gs before hval hw' (hX _ _ _ (by rfl) hx) hsh).mono fun e W' ⟨v, he, hp⟩ => ?_
  subst he
  exact ChangeSpec.post_blind hp
theorem bs_self (s : ByteArray) : bs s.data.toList = s := rfl
end Go.Proofs.YtpaoeeamlinaaaaGreatDoor

/- Journal: the walk of JournalKnown. -/
import Derived.Test.YtpaoeeamlinaaaaGreatDoorQJL2
import Derived.Test.YtpaoeeamlinaaaaGreatDoorQJV1
set_option linter.unusedVariables false
namespace Go.Proofs.YtpaoeeamlinaaaaGreatDoor
open Go.RowKit

def stopR : Rec := ⟨4, 0, 0, 0, 0, [], []⟩
def intR : Rec := ⟨2, 2, 17, 40, 0, [], []⟩
def badA : Rec := ⟨5, 0, 1, 0, 0, [], []⟩
def badB : Rec := ⟨3, 0, 1000001, 0, 0, [], []⟩
def planR : Rec := ⟨1, 0, 0, 0, 0, [⟨1, 3, 1, 0⟩, ⟨7, 2, 0, 7⟩], [[], [0]]⟩
def stopL : List UInt8 := [115, 116, 111, 112, 32, 35, 49, 50, 56, 56, 10]
def intF : List UInt8 := [105, 110, 116, 101, 110, 116, 32, 50, 32, 49, 55, 32, 52, 48, 32]
def planF : List UInt8 := [112, 108, 97, 110, 32, 50, 32, 49, 32, 51, 32, 49, 32, 48, 32, 55, 32, 50, 32, 48, 32, 55, 32, 48, 32, 49, 32, 48, 32]
theorem d1 {k : Nat} (h : k < 10) (c : UInt8) (hc : UInt8.ofNat (48 + k) = c) : dd k = [c] := by rw [dd_small h, hc]
theorem stop_line : lineF stopR = (stopL, 0) := by
  have hc : CanW stopR := by decide
  have h : frontT stopR = [115, 116, 111, 112, 32] := by decide
  have h2 : dd 1288 = [49, 50, 56, 56] := by
    rw [dd_big (by omega), dd_big (by omega), dd_big (by omega), dd_small (by omega)]; decide
  unfold lineF
  rw [if_pos hc]
  unfold lineT
  rw [h, show sumT [115, 116, 111, 112, 32] = 1288 by decide, h2]
  rfl
theorem int_front : frontT intR = intF := by
  have h : numsOf intR = [2, 17, 40] := by decide
  have h17 : dd 17 = [49, 55] := by rw [dd_big (by omega), dd_small (by omega)]; decide
  have h40 : dd 40 = [52, 48] := by rw [dd_big (by omega), dd_small (by omega)]; decide
  unfold frontT spaced
  rw [h]
  simp only [List.flatMap_cons, List.flatMap_nil]
  rw [show ((2 : Int)).toNat = 2 from rfl, show ((17 : Int)).toNat = 17 from rfl, show ((40 : Int)).toNat = 40 from rfl, h17, h40, d1 (k := 2) (by omega) 50 (by decide)]
  decide
theorem plan_front : frontT planR = planF := by
  have h : numsOf planR = [2, 1, 3, 1, 0, 7, 2, 0, 7, 0, 1, 0] := by decide
  unfold frontT spaced
  rw [h]
  simp only [List.flatMap_cons, List.flatMap_nil]
  rw [show ((2 : Int)).toNat = 2 from rfl, show ((1 : Int)).toNat = 1 from rfl, show ((3 : Int)).toNat = 3 from rfl, show ((0 : Int)).toNat = 0 from rfl, show ((7 : Int)).toNat = 7 from rfl,
    d1 (k := 2) (by omega) 50 (by decide), d1 (k := 1) (by omega) 49 (by decide), d1 (k := 3) (by omega) 51 (by decide), d1 (k := 0) (by omega) 48 (by decide), d1 (k := 7) (by omega) 55 (by decide)]
  decide
theorem int_line : lineF intR = (intF ++ 35 :: (dd (sumT intF) ++ [10]), 0) := by
  have hc : CanW intR := by decide
  unfold lineF
  rw [if_pos hc]
  unfold lineT
  rw [int_front]
theorem plan_line : lineF planR = (planF ++ 35 :: (dd (sumT planF) ++ [10]), 0) := by
  have hc : CanW planR := by decide
  unfold lineF
  rw [if_pos hc]
  unfold lineT
  rw [plan_front]
theorem badA_line : lineF badA = ([], 1) := lineF_no (by decide)
theorem badB_line : lineF badB = ([], 1) := lineF_no (by decide)
def cutL : List UInt8 := [101, 110, 100, 32, 35, 55, 52, 57]
def zerL : List UInt8 := [101, 110, 100, 32, 35, 48, 55, 52, 57, 10]
theorem read_cut : readF cutL = ([], 0, 0) := by unfold readF; exact read_torn (by decide)
theorem read_750 : readF badL = ([], 0, 17) := by
  unfold readF
  have hc : cutC 10 badL = some ([101, 110, 100, 32, 35, 55, 53, 48], []) := by decide
  have hr : recF [101, 110, 100, 32, 35, 55, 53, 48] = (Rec.none, 17) := by
    unfold recF
    rw [show cutC 35 [101, 110, 100, 32, 35, 55, 53, 48] = some ([101, 110, 100, 32], [55, 53, 48]) by decide]
    simp only
    rw [if_neg (by decide), show numF [55, 53, 48] = some 750 by decide]
    simp only
    rw [if_pos (by decide)]
  rw [readGo_hit hc, hr, if_pos (by simp)]
theorem read_lf : readF [10] = ([], 0, 4) := by
  unfold readF
  have hc : cutC 10 [10] = some ([], []) := by decide
  have hr : recF [] = (Rec.none, 4) := by
    unfold recF
    rw [show cutC 35 [] = none from rfl]
  rw [readGo_hit hc, hr, if_pos (by simp)]
theorem read_zer : readF zerL = ([], 0, 4) := by
  unfold readF
  have hc : cutC 10 zerL = some ([101, 110, 100, 32, 35, 48, 55, 52, 57], []) := by decide
  have hr : recF [101, 110, 100, 32, 35, 48, 55, 52, 57] = (Rec.none, 4) := by
    unfold recF
    rw [show cutC 35 [101, 110, 100, 32, 35, 48, 55, 52, 57] = some ([101, 110, 100, 32], [48, 55, 52, 57]) by decide]
    simp only
    rw [if_neg (by decide), show numF [48, 55, 52, 57] = none by decide]
  rw [readGo_hit hc, hr, if_pos (by simp)]
set_option maxRecDepth 100000 in
theorem Lines_long (w : World) (p : Option Addr) (n c : Nat) (h : 400 < n) : Calls Tryz.prog 20 #[.slice p n c] w fun e w' => e = .returned (.tuple #[.string (bs []), .int .i64 3]) ∧ Below w.heap.size w w' := by
  have q : decide (400 < (n : Int)) = true := decide_eq_true (by omega)
  have q' : (400 : Int) < (n : Int) := by omega
  clear h
  go_enter Tryz.func20, Tryz.ntmps20
  go_wp2_with fail
  go_ret2
  exact ⟨rfl, Below.refl _ _⟩
theorem SlC.of_box {w : World} {b n k : Nat} {cs : Array Value} {t : TypeId} {f : Nat → Nat → Value} (h : Box w b cs t) (hn : n ≤ 1000) (hc : ∀ i, i < n → ∀ j, j < k → cs[0 + i * k + j]? = some (f i j)) : SlC w (.slice (some ⟨b, 0, none⟩) n n) n k f :=
  ⟨some ⟨b, 0, none⟩, n, rfl, Nat.le_refl _, by omega, (fun h => by cases h), fun _ => ⟨b, 0, rfl, h.lt, fun i hi j hj => by rw [h.cell]; exact hc i hi j hj⟩⟩
theorem plan_is {w : World} {b1 b2 b3 : Nat} (h1 : Box w b1 #[.int .u8 1, .int .i64 3, .int .i64 1, .int .i64 0, .int .u8 7, .int .i64 2, .int .i64 0, .int .i64 7] 53) (h2 : Box w b2 #[.int .i64 0] 3) (h3 : Box w b3 #[.slice none 0 0, .slice (some ⟨b2, 0, none⟩) 1 1] 54) :
    IsR w (.agg #[.int .u8 1, .int .i64 0, .int .i64 0, .int .i64 0, .int .u8 0, .slice (some ⟨b1, 0, none⟩) 2 2, .slice (some ⟨b3, 0, none⟩) 2 2]) planR := by
  have z : ∀ k : Int, -1000 ≤ k → k ≤ 1000 → In64 k := fun k a b => by constructor <;> omega
  refine ⟨⟨by decide, z _ (by decide) (by decide), z _ (by decide) (by decide), z _ (by decide) (by decide), by decide⟩, _, _, rfl, ⟨fun s hs => ?_, ?_⟩, fun i => if i = 0 then .slice none 0 0 else .slice (some ⟨b2, 0, none⟩) 1 1, ?_, fun i hi => ?_⟩
  · simp only [planR, List.mem_cons, List.not_mem_nil, or_false] at hs
    rcases hs with rfl | rfl
    · exact ⟨by decide, z _ (by decide) (by decide), z _ (by decide) (by decide), z _ (by decide) (by decide)⟩
    · exact ⟨by decide, z _ (by decide) (by decide), z _ (by decide) (by decide), z _ (by decide) (by decide)⟩
  · refine SlC.of_box h1 (by decide) (fun i hi j hj => ?_)
    have hi' : i < 2 := hi
    match i, hi', j, hj with
    | 0, _, 0, _ => rfl
    | 0, _, 1, _ => rfl
    | 0, _, 2, _ => rfl
    | 0, _, 3, _ => rfl
    | 1, _, 0, _ => rfl
    | 1, _, 1, _ => rfl
    | 1, _, 2, _ => rfl
    | 1, _, 3, _ => rfl
  · refine SlC.of_box h3 (by decide) (fun i hi j hj => ?_)
    have hi' : i < 2 := hi
    match i, hi', j, hj with
    | 0, _, 0, _ => rfl
    | 1, _, 0, _ => rfl
  · have hi' : i < 2 := hi
    match i, hi' with
    | 0, _ => exact SlI.nil w
    | 1, _ =>
      refine ⟨fun y hy => by rw [List.mem_singleton.1 hy]; exact z _ (by decide) (by decide), ?_⟩
      refine SlC.of_box h2 (by decide) (fun i hi j hj => ?_)
      have hi'' : i < 1 := hi
      match i, hi'', j, hj with
      | 0, _, 0, _ => rfl

set_option maxRecDepth 100000 in
set_option maxHeartbeats 4000000 in
theorem journalKnown_w (w : World) (he : Env w) : Calls Tryz.prog 8 #[] w fun e w' => e = .returned (.bool true) ∧ Below w.heap.size w w' := by
  have HE := Lib.hid he
  have z : ∀ k : Int, -1000 ≤ k → k ≤ 2000000 → In64 k := fun k a b => by constructor <;> omega
  have HZ := Lib.hid z
  have HIS : Hid (∀ (w : World) (k a b c : Int) (k' : Nat), k = (k' : Int) → k' < 256 → In64 a → In64 b → In64 c → IsR w (.agg #[.int .u8 k, .int .i64 a, .int .i64 b, .int .i64 c, .int .u8 0, .slice none 0 0, .slice none 0 0]) ⟨k', a, b, c, 0, [], []⟩) := by
    intro w k a b c k' hk hk' ha hb hc
    subst hk
    exact ⟨⟨hk', ha, hb, hc, show (0 : Nat) < 256 by decide⟩, _, _, rfl, SlS.nil w, SlL.nil w⟩
  clear z he
  obtain ⟨TA, hTA, HTA⟩ : ∃ TA, (⟨#[115, 116, 111, 112, 32, 35, 49, 50, 56, 56, 10]⟩ : ByteArray) = bs TA ∧ Hid (TA = stopL) := ⟨_, rfl, Lib.hid (by decide)⟩
  obtain ⟨TB, hTB, HTB⟩ : ∃ TB, (⟨#[105, 110, 116, 101, 110, 116, 32, 50, 32, 49, 55, 32, 52, 48, 32]⟩ : ByteArray) = bs TB ∧ Hid (TB = intF) := ⟨_, rfl, Lib.hid (by decide)⟩
  obtain ⟨TC, hTC, HTC⟩ : ∃ TC, (⟨#[105, 110, 116, 101, 110, 116, 32, 50, 32, 49, 55, 32, 52, 48, 32, 35]⟩ : ByteArray) = bs TC ∧ Hid (TC = intF ++ [35]) := ⟨_, rfl, Lib.hid (by decide)⟩
  obtain ⟨TD, hTD, HTD⟩ : ∃ TD, (⟨#[101, 110, 100, 32, 35, 55, 52, 57]⟩ : ByteArray) = bs TD ∧ Hid (TD = cutL) := ⟨_, rfl, Lib.hid (by decide)⟩
  obtain ⟨TE, hTE, HTE⟩ : ∃ TE, (⟨#[101, 110, 100, 32, 35, 55, 53, 48, 10]⟩ : ByteArray) = bs TE ∧ Hid (TE = badL) := ⟨_, rfl, Lib.hid (by decide)⟩
  obtain ⟨TF, hTF, HTF⟩ : ∃ TF, (⟨#[10]⟩ : ByteArray) = bs TF ∧ Hid (TF = [10]) := ⟨_, rfl, Lib.hid (by decide)⟩
  obtain ⟨TG, hTG, HTG⟩ : ∃ TG, (⟨#[101, 110, 100, 32, 35, 48, 55, 52, 57, 10]⟩ : ByteArray) = bs TG ∧ Hid (TG = zerL) := ⟨_, rfl, Lib.hid (by decide)⟩
  obtain ⟨TH, hTH, HTH⟩ : ∃ TH, (⟨#[112, 108, 97, 110, 32, 50, 32, 49, 32, 51, 32, 49, 32, 48, 32, 55, 32, 50, 32, 48, 32, 55, 32, 48, 32, 49, 32, 48, 32]⟩ : ByteArray) = bs TH ∧ Hid (TH = planF) := ⟨_, rfl, Lib.hid (by decide)⟩
  obtain ⟨TI, hTI, HTI⟩ : ∃ TI, (⟨#[]⟩ : ByteArray) = bs TI ∧ Hid (TI = []) := ⟨_, rfl, Lib.hid (by decide)⟩
  obtain ⟨TJ, hTJ, HTJ⟩ : ∃ TJ, (⟨#[97]⟩ : ByteArray) = bs TJ ∧ Hid (TJ = [97]) := ⟨_, rfl, Lib.hid (by decide)⟩
  obtain ⟨TK, hTK, HTK⟩ : ∃ TK, (⟨#[101, 110, 100, 32]⟩ : ByteArray) = bs TK ∧ Hid (TK = [101, 110, 100, 32]) := ⟨_, rfl, Lib.hid (by decide)⟩
  obtain ⟨TL, hTL, HTL⟩ : ∃ TL, (⟨#[35]⟩ : ByteArray) = bs TL ∧ Hid (TL = [35]) := ⟨_, rfl, Lib.hid (by decide)⟩
  go_enter Tryz.func8, Tryz.ntmps8
  go_wp2_with fail
  refine (Line_c w _ stopR (HIS.out w 4 0 0 0 4 rfl (by decide) (HZ.out _ (by decide) (by decide)) (HZ.out _ (by decide) (by decide)) (HZ.out _ (by decide) (by decide))) HE.out).mono ?_
  unfold RetL
  rw [stop_line, ← show TA = stopL from HTA.out]
  rintro e w1 ⟨rfl, hb1⟩
  have HB1 := Lib.hid hb1
  clear hb1
  dsimp only
  go_wp2_with fail
  refine (Line_c w1 _ intR (HIS.out w1 2 2 17 40 2 rfl (by decide) (HZ.out _ (by decide) (by decide)) (HZ.out _ (by decide) (by decide)) (HZ.out _ (by decide) (by decide))) (HE.out.after HB1.out)).mono ?_
  unfold RetL
  rw [int_line]
  obtain ⟨LI, hLI⟩ : ∃ LI, intF ++ 35 :: (dd (sumT intF) ++ [10]) = LI := ⟨_, rfl⟩
  have HLI := Lib.hid hLI
  rw [hLI]
  clear hLI
  rintro e w2 ⟨rfl, hb2⟩
  have HB2 : Hid (Below w.heap.size w w2) := HB1.out.trans (hb2.mono HB1.out.size)
  clear hb2
  dsimp only
  go_wp2_with fail
  refine (Line_c w2 _ badA (HIS.out w2 5 0 1 0 5 rfl (by decide) (HZ.out _ (by decide) (by decide)) (HZ.out _ (by decide) (by decide)) (HZ.out _ (by decide) (by decide))) (HE.out.after HB2.out)).mono ?_
  unfold RetL
  rw [badA_line]
  rintro e w3 ⟨rfl, hb3⟩
  have HB3 : Hid (Below w.heap.size w w3) := HB2.out.trans (hb3.mono HB2.out.size)
  clear hb3
  dsimp only
  go_wp2_with fail
  refine (Line_c w3 _ badB (HIS.out w3 3 0 1000001 0 3 rfl (by decide) (HZ.out _ (by decide) (by decide)) (HZ.out _ (by decide) (by decide)) (HZ.out _ (by decide) (by decide))) (HE.out.after HB3.out)).mono ?_
  unfold RetL
  rw [badB_line]
  rintro e w4 ⟨rfl, hb4⟩
  have HB4 : Hid (Below w.heap.size w w4) := HB3.out.trans (hb4.mono HB3.out.size)
  clear hb4
  dsimp only
  go_wp2_with fail
  refine (Sum_c w4 TI (by rw [HTI.out]; decide)).mono ?_
  rw [show sumT TI = 0 from by rw [HTI.out]; decide]
  rintro e w5 ⟨rfl, hb5⟩
  have HB5 : Hid (Below w.heap.size w w5) := HB4.out.trans (hb5.mono HB4.out.size)
  clear hb5
  go_wp2_with fail
  refine (Sum_c w5 TJ (by rw [HTJ.out]; decide)).mono ?_
  rw [show sumT TJ = 97 from by rw [HTJ.out]; decide]
  rintro e w6 ⟨rfl, hb6⟩
  have HB6 : Hid (Below w.heap.size w w6) := HB5.out.trans (hb6.mono HB5.out.size)
  clear hb6
  go_wp2_with fail
  refine (Sum_c w6 TK (by rw [HTK.out]; decide)).mono ?_
  rw [show sumT TK = 749 from by rw [HTK.out]; decide]
  rintro e w7 ⟨rfl, hb7⟩
  have HB7 : Hid (Below w.heap.size w w7) := HB6.out.trans (hb7.mono HB6.out.size)
  have ha1 : ((bs TA).toList == (bs TA).toList) = true := by simp
  clear hb7
  go_wp2_with fail
  obtain ⟨sI, hsI⟩ : ∃ sI, sumT TB = sI := ⟨_, rfl⟩
  have hsl : sI < 9973 := by rw [← hsI]; exact sumT_lt TB
  refine (Sum_c w7 TB (by rw [HTB.out]; decide)).mono ?_
  rw [hsI]
  rintro e w8 ⟨rfl, hb8⟩
  have HB8 : Hid (Below w.heap.size w w8) := HB7.out.trans (hb8.mono HB7.out.size)
  obtain ⟨dI, hdI⟩ : ∃ dI, dd sI = dI := ⟨_, rfl⟩
  have hdl : dI.length ≤ 4 := by rw [← hdI, ← hsI]; exact sum_digits TB
  have hcat1 : bs TC ++ bs dI = bs (TC ++ dI) := append_bs TC dI
  obtain ⟨T1, hT1⟩ : ∃ T1, TC ++ dI = T1 := ⟨_, rfl⟩
  rw [hT1] at hcat1
  have hcat2 : bs T1 ++ bs TF = bs (T1 ++ TF) := append_bs T1 TF
  have HLL : Hid (T1 ++ TF = LI) := by
    show _ = _
    rw [← hT1, HTC.out, HTF.out, ← HLI.out, ← hdI, ← hsI, HTB.out]
    simp
  rw [show T1 ++ TF = LI from HLL.out] at hcat2
  have HDI := Lib.hid hdI
  have zC : (bs TC).size = 16 := by rw [HTC.out]; rfl
  have zd := bs_size dI
  have z1 : (bs T1).size = 16 + dI.length := by rw [bs_size, ← hT1, List.length_append]; rw [bs_size] at zC; rw [zC]
  have zF : (bs TF).size = 1 := by rw [HTF.out]; rfl
  clear hb8 hT1 hdI hsI
  go_wp2_with fail
  refine (rDigits_c w8 sI (by omega)).mono ?_
  rw [HDI.out]
  rintro e w9 ⟨rfl, hb9⟩
  have HB9 : Hid (Below w.heap.size w w9) := HB8.out.trans (hb9.mono HB8.out.size)
  have ha2 : ((bs LI).toList == (bs LI).toList) = true := by simp
  clear hb9
  go_wp2_with fail
  refine (Read_c w9 TD (by rw [HTD.out]; decide) (HE.out.after HB9.out)).mono ?_
  unfold RetRd
  rw [show readF TD = ([], 0, 0) from by rw [HTD.out]; exact read_cut]
  rintro e w10 ⟨vD, rfl, hv, hb⟩
  have HB10 : Hid (Below w.heap.size w w10) := HB9.out.trans (hb.mono HB9.out.size)
  obtain ⟨pD, cD, rfl, _⟩ := hv.shape
  clear hb hv
  dsimp only
  go_wp2_with fail
  refine (Read_c w10 TE (by rw [HTE.out]; decide) (HE.out.after HB10.out)).mono ?_
  unfold RetRd
  rw [show readF TE = ([], 0, 17) from by rw [HTE.out]; exact read_750]
  rintro e w11 ⟨vE, rfl, hv, hb⟩
  have HB11 : Hid (Below w.heap.size w w11) := HB10.out.trans (hb.mono HB10.out.size)
  obtain ⟨pE, cE, rfl, _⟩ := hv.shape
  clear hb hv
  dsimp only
  go_wp2_with fail
  refine (Read_c w11 TF (by rw [HTF.out]; decide) (HE.out.after HB11.out)).mono ?_
  unfold RetRd
  rw [show readF TF = ([], 0, 4) from by rw [HTF.out]; exact read_lf]
  rintro e w12 ⟨vF, rfl, hv, hb⟩
  have HB12 : Hid (Below w.heap.size w w12) := HB11.out.trans (hb.mono HB11.out.size)
  obtain ⟨pF, cF, rfl, _⟩ := hv.shape
  clear hb hv
  dsimp only
  go_wp2_with fail
  refine (Read_c w12 TG (by rw [HTG.out]; decide) (HE.out.after HB12.out)).mono ?_
  unfold RetRd
  rw [show readF TG = ([], 0, 4) from by rw [HTG.out]; exact read_zer]
  rintro e w13 ⟨vG, rfl, hv, hb⟩
  have HB13 : Hid (Below w.heap.size w w13) := HB12.out.trans (hb.mono HB12.out.size)
  obtain ⟨pG, cG, rfl, _⟩ := hv.shape
  clear hb hv
  dsimp only
  go_upto_region 11 with fail
  obtain ⟨W14, hW14⟩ : ∃ W14, W14 = (((w13.alloc (.cells #[.int .u8 1, .int .i64 3, .int .i64 1, .int .i64 0, .int .u8 7, .int .i64 2, .int .i64 0, .int .i64 7] 53)).alloc (.cells #[.int .i64 0] 3)).alloc (.cells #[.slice none 0 0, .slice (some ⟨w13.heap.size + 1, 0, none⟩) 1 1] 54)).alloc (.cells #[.int .u8 1, .int .i64 0, .int .i64 0, .int .i64 0, .int .u8 0, .slice (some ⟨w13.heap.size, 0, none⟩) 2 2, .slice (some ⟨w13.heap.size + 1 + 1, 0, none⟩) 2 2] 29) := ⟨_, rfl⟩
  rw [← hW14]
  have k1 : Box W14 w13.heap.size #[.int .u8 1, .int .i64 3, .int .i64 1, .int .i64 0, .int .u8 7, .int .i64 2, .int .i64 0, .int .i64 7] 53 := by
    rw [hW14]; exact (((Box.new w13 _ _).alloc _).alloc _).alloc _
  have k2 : Box W14 (w13.heap.size + 1) #[.int .i64 0] 3 := by
    have h := Box.new (w13.alloc (.cells #[.int .u8 1, .int .i64 3, .int .i64 1, .int .i64 0, .int .u8 7, .int .i64 2, .int .i64 0, .int .i64 7] 53)) #[.int .i64 0] 3
    rw [World.size_alloc] at h
    rw [hW14]; exact (h.alloc _).alloc _
  have k3 : Box W14 (w13.heap.size + 1 + 1) #[.slice none 0 0, .slice (some ⟨w13.heap.size + 1, 0, none⟩) 1 1] 54 := by
    have h := Box.new ((w13.alloc (.cells #[.int .u8 1, .int .i64 3, .int .i64 1, .int .i64 0, .int .u8 7, .int .i64 2, .int .i64 0, .int .i64 7] 53)).alloc (.cells #[.int .i64 0] 3)) #[.slice none 0 0, .slice (some ⟨w13.heap.size + 1, 0, none⟩) 1 1] 54
    rw [World.size_alloc, World.size_alloc] at h
    rw [hW14]; exact h.alloc _
  have k4 : Box W14 (w13.heap.size + 1 + 1 + 1) #[.int .u8 1, .int .i64 0, .int .i64 0, .int .i64 0, .int .u8 0, .slice (some ⟨w13.heap.size, 0, none⟩) 2 2, .slice (some ⟨w13.heap.size + 1 + 1, 0, none⟩) 2 2] 29 := by
    have h := Box.new (((w13.alloc (.cells #[.int .u8 1, .int .i64 3, .int .i64 1, .int .i64 0, .int .u8 7, .int .i64 2, .int .i64 0, .int .i64 7] 53)).alloc (.cells #[.int .i64 0] 3)).alloc (.cells #[.slice none 0 0, .slice (some ⟨w13.heap.size + 1, 0, none⟩) 1 1] 54)) #[.int .u8 1, .int .i64 0, .int .i64 0, .int .i64 0, .int .u8 0, .slice (some ⟨w13.heap.size, 0, none⟩) 2 2, .slice (some ⟨w13.heap.size + 1 + 1, 0, none⟩) 2 2] 29
    rw [World.size_alloc, World.size_alloc, World.size_alloc] at h
    rw [hW14]; exact h
  have HB14 : Hid (Below w.heap.size w W14) := by
    have h := HB13.out.size
    rw [hW14]
    refine (((HB13.out.alloc h _).alloc ?_ _).alloc ?_ _).alloc ?_ _
    · rw [World.size_alloc]; omega
    · rw [World.size_alloc, World.size_alloc]; omega
    · rw [World.size_alloc, World.size_alloc, World.size_alloc]; omega
  have HPI := Lib.hid (plan_is k1 k2 k3)
  have x0 : W14.cell? ⟨w13.heap.size + 1 + 1 + 1, 0, none⟩ = some (.int .u8 1) := k4.cell 0
  have x1 : W14.cell? ⟨w13.heap.size + 1 + 1 + 1, 1, none⟩ = some (.int .i64 0) := k4.cell 1
  have x2 : W14.cell? ⟨w13.heap.size + 1 + 1 + 1, 2, none⟩ = some (.int .i64 0) := k4.cell 2
  have x3 : W14.cell? ⟨w13.heap.size + 1 + 1 + 1, 3, none⟩ = some (.int .i64 0) := k4.cell 3
  have x4 : W14.cell? ⟨w13.heap.size + 1 + 1 + 1, 4, none⟩ = some (.int .u8 0) := k4.cell 4
  have x5 : W14.cell? ⟨w13.heap.size + 1 + 1 + 1, 5, none⟩ = some (.slice (some ⟨w13.heap.size, 0, none⟩) 2 2) := k4.cell 5
  have x6 : W14.cell? ⟨w13.heap.size + 1 + 1 + 1, 6, none⟩ = some (.slice (some ⟨w13.heap.size + 1 + 1, 0, none⟩) 2 2) := k4.cell 6
  have xl := k4.lt
  clear hW14 k1 k2 k3 k4
  go_wp2_with fail
  refine (Line_c W14 _ planR HPI.out (HE.out.after HB14.out)).mono ?_
  unfold RetL
  rw [plan_line]
  obtain ⟨LP, hLP⟩ : ∃ LP, planF ++ 35 :: (dd (sumT planF) ++ [10]) = LP := ⟨_, rfl⟩
  have HLP := Lib.hid hLP
  rw [hLP]
  clear hLP
  rintro e w15 ⟨rfl, hb15⟩
  have HB15 : Hid (Below w.heap.size w w15) := HB14.out.trans (hb15.mono HB14.out.size)
  clear hb15 x0 x1 x2 x3 x4 x5 x6 xl
  dsimp only
  obtain ⟨cs, hmk⟩ : ∃ cs, (Instr.makeSlice 38 (.int .i64 401) (.int .i64 401)).run Tryz.prog w15 = .ok (.slice (some ⟨w15.heap.size, 0, none⟩) 401 401) (w15.alloc (.cells cs 29)) := by
    obtain ⟨i0, hi, hz0, hz1, hz2⟩ := info_parts infoRec
    exact ⟨_, run_makeSlice w15 38 29 i0 _ Tryz.underlying38 hi hz0 .i64 .i64 401 401 (by omega) (by omega) (by rw [hz1]; decide) (by rw [hz2]; decide) (by omega)⟩
  obtain ⟨W16, hW16⟩ : ∃ W16, W16 = w15.alloc (.cells cs 29) := ⟨_, rfl⟩
  have HB16 : Hid (Below w.heap.size w W16) := by rw [hW16]; exact HB15.out.alloc HB15.out.size _
  rw [← hW16] at hmk
  clear hW16
  go_wp2_with fail
  refine (Lines_long W16 _ 401 401 (by omega)).mono ?_
  rintro e w17 ⟨rfl, hb17⟩
  have HB17 : Hid (Below w.heap.size w w17) := HB16.out.trans (hb17.mono HB16.out.size)
  obtain ⟨sP, hsP⟩ : ∃ sP, sumT TH = sP := ⟨_, rfl⟩
  have hspl : sP < 9973 := by rw [← hsP]; exact sumT_lt TH
  obtain ⟨dP, hdP⟩ : ∃ dP, dd sP = dP := ⟨_, rfl⟩
  have hpl : dP.length ≤ 4 := by rw [← hdP, ← hsP]; exact sum_digits TH
  have hp1 : bs TH ++ bs TL = bs (TH ++ TL) := append_bs TH TL
  obtain ⟨U1, hU1⟩ : ∃ U1, TH ++ TL = U1 := ⟨_, rfl⟩
  rw [hU1] at hp1
  have hp2 : bs U1 ++ bs dP = bs (U1 ++ dP) := append_bs U1 dP
  obtain ⟨U2, hU2⟩ : ∃ U2, U1 ++ dP = U2 := ⟨_, rfl⟩
  rw [hU2] at hp2
  have hp3 : bs U2 ++ bs TF = bs (U2 ++ TF) := append_bs U2 TF
  have HPP : Hid (U2 ++ TF = LP) := by
    show _ = _
    rw [← hU2, ← hU1, HTF.out, HTL.out, ← HLP.out, ← hdP, ← hsP, HTH.out]
    simp
  rw [show U2 ++ TF = LP from HPP.out] at hp3
  have HDP := Lib.hid hdP
  have HSP := Lib.hid hsP
  have zTH : (bs TH).size = 29 := by rw [HTH.out]; rfl
  have zTL : (bs TL).size = 1 := by rw [HTL.out]; rfl
  have zU1 : (bs U1).size = 30 := by rw [← hU1, bs_size, List.length_append, HTH.out, HTL.out]; rfl
  have zdP := bs_size dP
  have zU2 : (bs U2).size = 30 + dP.length := by rw [bs_size, ← hU2, List.length_append]; rw [bs_size] at zU1; rw [zU1]
  have ha3 : ((bs LP).toList == (bs LP).toList) = true := by simp
  clear hb17 hU1 hU2 hdP hsP hmk
  dsimp only
  go_wp2_with fail
  refine (rSum_c w17 TH (by rw [HTH.out]; decide)).mono ?_
  rw [HSP.out]
  rintro e w18 ⟨rfl, hb18⟩
  have HB18 : Hid (Below w.heap.size w w18) := HB17.out.trans (hb18.mono HB17.out.size)
  clear hb18
  go_wp2_with fail
  refine (rDigits_c w18 sP (by omega)).mono ?_
  rw [HDP.out]
  rintro e w19 ⟨rfl, hb19⟩
  have HB19 : Hid (Below w.heap.size w w19) := HB18.out.trans (hb19.mono HB18.out.size)
  clear hb19
  go_wp2_with fail
  refine (lives_c w19 (HE.out.after HB19.out)).mono ?_
  rintro e w20 ⟨rfl, hb20⟩
  have HB20 : Hid (Below w.heap.size w w20) := HB19.out.trans (hb20.mono HB19.out.size)
  clear hb20
  go_wp2_with fail
  go_ret
  exact ⟨rfl, HB20.out⟩
end Go.Proofs.YtpaoeeamlinaaaaGreatDoor

/- Syntax, the reference: Scope and Word. -/
import Derived.Test.YtganlldidjbpiaaGreatDoorQSyU3
set_option linter.unusedVariables false
namespace Go.Proofs.YtganlldidjbpiaaGreatDoor
open Go.RowKit Go.Shelf

theorem isWord_if (x : List UInt8) : isWord x = if x = sService then true else if x = sWindow then true else if x = sApprove then true else if x = sBlast then true else if x = sCap then true else if x = sCores then true else if x = sReplicas then true else if x = sLeast then true else if x = sSpread then true else if x = sApart then true else if x = sNear then true else if x = sFirmware then true else if x = sFrom then true else if x = sTo then true else if x = sAt then true else if x = sPer then true else if x = sWithin then true else if x = sHost then true else if x = sRack then true else if x = sRow then true else if x = sFeed then true else if x = sLoop then true else false := by
  rw [Bool.eq_iff_iff]
  unfold isWord wordsL
  rw [List.contains_iff_mem]
  simp

set_option maxRecDepth 100000 in
set_option maxHeartbeats 8000000 in
theorem rScope_c (w : World) (x : List UInt8) : Calls Tryz.prog 87 #[.string (bs x)] w fun e w' => e = .returned (.int .u8 ((scopeN x : Nat) : Int)) ∧ Below w.heap.size w w' := by
  obtain ⟨T0, hT0⟩ : ∃ T, sHost = T := ⟨_, rfl⟩
  have e0 : (⟨#[104, 111, 115, 116]⟩ : ByteArray) = bs T0 := by rw [← hT0]; rfl
  obtain ⟨T1, hT1⟩ : ∃ T, sRack = T := ⟨_, rfl⟩
  have e1 : (⟨#[114, 97, 99, 107]⟩ : ByteArray) = bs T1 := by rw [← hT1]; rfl
  obtain ⟨T2, hT2⟩ : ∃ T, sRow = T := ⟨_, rfl⟩
  have e2 : (⟨#[114, 111, 119]⟩ : ByteArray) = bs T2 := by rw [← hT2]; rfl
  obtain ⟨T3, hT3⟩ : ∃ T, sFeed = T := ⟨_, rfl⟩
  have e3 : (⟨#[102, 101, 101, 100]⟩ : ByteArray) = bs T3 := by rw [← hT3]; rfl
  obtain ⟨T4, hT4⟩ : ∃ T, sLoop = T := ⟨_, rfl⟩
  have e4 : (⟨#[108, 111, 111, 112]⟩ : ByteArray) = bs T4 := by rw [← hT4]; rfl
  have HV := Lib.hid (show scopeN x = if x = T0 then 1 else if x = T1 then 2 else if x = T2 then 3 else if x = T3 then 4 else if x = T4 then 5 else 0 from by unfold scopeN; rw [← hT0, ← hT1, ← hT2, ← hT3, ← hT4])
  obtain ⟨y, hy⟩ : ∃ y, scopeN x = y := ⟨_, rfl⟩
  rw [hy] at HV ⊢
  clear hy hT0 hT1 hT2 hT3 hT4
  by_cases h0 : x = T0
  · rw [show y = 1 from by have := HV.out; rw [if_pos h0] at this; exact this]
    have q0 : ((bs x).toList == (bs T0).toList) = true := by rw [h0]; simp
    clear h0
    go_enter Tryz.func87, Tryz.ntmps87
    go_wp2_with fail
    go_ret
    exact ⟨by rfl, Below.refl _ _⟩
  have q0 := bs_eq_no h0
  by_cases h1 : x = T1
  · rw [show y = 2 from by have := HV.out; rw [if_neg h0, if_pos h1] at this; exact this]
    have q1 : ((bs x).toList == (bs T1).toList) = true := by rw [h1]; simp
    clear h0 h1
    go_enter Tryz.func87, Tryz.ntmps87
    go_wp2_with fail
    go_ret
    exact ⟨by rfl, Below.refl _ _⟩
  have q1 := bs_eq_no h1
  by_cases h2 : x = T2
  · rw [show y = 3 from by have := HV.out; rw [if_neg h0, if_neg h1, if_pos h2] at this; exact this]
    have q2 : ((bs x).toList == (bs T2).toList) = true := by rw [h2]; simp
    clear h0 h1 h2
    go_enter Tryz.func87, Tryz.ntmps87
    go_wp2_with fail
    go_ret
    exact ⟨by rfl, Below.refl _ _⟩
  have q2 := bs_eq_no h2
  by_cases h3 : x = T3
  · rw [show y = 4 from by have := HV.out; rw [if_neg h0, if_neg h1, if_neg h2, if_pos h3] at this; exact this]
    have q3 : ((bs x).toList == (bs T3).toList) = true := by rw [h3]; simp
    clear h0 h1 h2 h3
    go_enter Tryz.func87, Tryz.ntmps87
    go_wp2_with fail
    go_ret
    exact ⟨by rfl, Below.refl _ _⟩
  have q3 := bs_eq_no h3
  by_cases h4 : x = T4
  · rw [show y = 5 from by have := HV.out; rw [if_neg h0, if_neg h1, if_neg h2, if_neg h3, if_pos h4] at this; exact this]
    have q4 : ((bs x).toList == (bs T4).toList) = true := by rw [h4]; simp
    clear h0 h1 h2 h3 h4
    go_enter Tryz.func87, Tryz.ntmps87
    go_wp2_with fail
    go_ret
    exact ⟨by rfl, Below.refl _ _⟩
  have q4 := bs_eq_no h4
  rw [show y = 0 from by have := HV.out; rw [if_neg h0, if_neg h1, if_neg h2, if_neg h3, if_neg h4] at this; exact this]
  clear h0 h1 h2 h3 h4
  go_enter Tryz.func87, Tryz.ntmps87
  go_wp2_with fail
  go_ret
  exact ⟨by rfl, Below.refl _ _⟩
set_option maxRecDepth 100000 in
set_option maxHeartbeats 8000000 in
theorem rWord_c (w : World) (x : List UInt8) : Calls Tryz.prog 96 #[.string (bs x)] w fun e w' => e = .returned (.bool (isWord x)) ∧ Below w.heap.size w w' := by
  obtain ⟨T0, hT0⟩ : ∃ T, sService = T := ⟨_, rfl⟩
  have e0 : (⟨#[115, 101, 114, 118, 105, 99, 101]⟩ : ByteArray) = bs T0 := by rw [← hT0]; rfl
  obtain ⟨T1, hT1⟩ : ∃ T, sWindow = T := ⟨_, rfl⟩
  have e1 : (⟨#[119, 105, 110, 100, 111, 119]⟩ : ByteArray) = bs T1 := by rw [← hT1]; rfl
  obtain ⟨T2, hT2⟩ : ∃ T, sApprove = T := ⟨_, rfl⟩
  have e2 : (⟨#[97, 112, 112, 114, 111, 118, 101]⟩ : ByteArray) = bs T2 := by rw [← hT2]; rfl
  obtain ⟨T3, hT3⟩ : ∃ T, sBlast = T := ⟨_, rfl⟩
  have e3 : (⟨#[98, 108, 97, 115, 116]⟩ : ByteArray) = bs T3 := by rw [← hT3]; rfl
  obtain ⟨T4, hT4⟩ : ∃ T, sCap = T := ⟨_, rfl⟩
  have e4 : (⟨#[99, 97, 112]⟩ : ByteArray) = bs T4 := by rw [← hT4]; rfl
  obtain ⟨T5, hT5⟩ : ∃ T, sCores = T := ⟨_, rfl⟩
  have e5 : (⟨#[99, 111, 114, 101, 115]⟩ : ByteArray) = bs T5 := by rw [← hT5]; rfl
  obtain ⟨T6, hT6⟩ : ∃ T, sReplicas = T := ⟨_, rfl⟩
  have e6 : (⟨#[114, 101, 112, 108, 105, 99, 97, 115]⟩ : ByteArray) = bs T6 := by rw [← hT6]; rfl
  obtain ⟨T7, hT7⟩ : ∃ T, sLeast = T := ⟨_, rfl⟩
  have e7 : (⟨#[108, 101, 97, 115, 116]⟩ : ByteArray) = bs T7 := by rw [← hT7]; rfl
  obtain ⟨T8, hT8⟩ : ∃ T, sSpread = T := ⟨_, rfl⟩
  have e8 : (⟨#[115, 112, 114, 101, 97, 100]⟩ : ByteArray) = bs T8 := by rw [← hT8]; rfl
  obtain ⟨T9, hT9⟩ : ∃ T, sApart = T := ⟨_, rfl⟩
  have e9 : (⟨#[97, 112, 97, 114, 116]⟩ : ByteArray) = bs T9 := by rw [← hT9]; rfl
  obtain ⟨T10, hT10⟩ : ∃ T, sNear = T := ⟨_, rfl⟩
  have e10 : (⟨#[110, 101, 97, 114]⟩ : ByteArray) = bs T10 := by rw [← hT10]; rfl
  obtain ⟨T11, hT11⟩ : ∃ T, sFirmware = T := ⟨_, rfl⟩
  have e11 : (⟨#[102, 105, 114, 109, 119, 97, 114, 101]⟩ : ByteArray) = bs T11 := by rw [← hT11]; rfl
  obtain ⟨T12, hT12⟩ : ∃ T, sFrom = T := ⟨_, rfl⟩
  have e12 : (⟨#[102, 114, 111, 109]⟩ : ByteArray) = bs T12 := by rw [← hT12]; rfl
  obtain ⟨T13, hT13⟩ : ∃ T, sTo = T := ⟨_, rfl⟩
  have e13 : (⟨#[116, 111]⟩ : ByteArray) = bs T13 := by rw [← hT13]; rfl
  obtain ⟨T14, hT14⟩ : ∃ T, sAt = T := ⟨_, rfl⟩
  have e14 : (⟨#[97, 116]⟩ : ByteArray) = bs T14 := by rw [← hT14]; rfl
  obtain ⟨T15, hT15⟩ : ∃ T, sPer = T := ⟨_, rfl⟩
  have e15 : (⟨#[112, 101, 114]⟩ : ByteArray) = bs T15 := by rw [← hT15]; rfl
  obtain ⟨T16, hT16⟩ : ∃ T, sWithin = T := ⟨_, rfl⟩
  have e16 : (⟨#[119, 105, 116, 104, 105, 110]⟩ : ByteArray) = bs T16 := by rw [← hT16]; rfl
  obtain ⟨T17, hT17⟩ : ∃ T, sHost = T := ⟨_, rfl⟩
  have e17 : (⟨#[104, 111, 115, 116]⟩ : ByteArray) = bs T17 := by rw [← hT17]; rfl
  obtain ⟨T18, hT18⟩ : ∃ T, sRack = T := ⟨_, rfl⟩
  have e18 : (⟨#[114, 97, 99, 107]⟩ : ByteArray) = bs T18 := by rw [← hT18]; rfl
  obtain ⟨T19, hT19⟩ : ∃ T, sRow = T := ⟨_, rfl⟩
  have e19 : (⟨#[114, 111, 119]⟩ : ByteArray) = bs T19 := by rw [← hT19]; rfl
  obtain ⟨T20, hT20⟩ : ∃ T, sFeed = T := ⟨_, rfl⟩
  have e20 : (⟨#[102, 101, 101, 100]⟩ : ByteArray) = bs T20 := by rw [← hT20]; rfl
  obtain ⟨T21, hT21⟩ : ∃ T, sLoop = T := ⟨_, rfl⟩
  have e21 : (⟨#[108, 111, 111, 112]⟩ : ByteArray) = bs T21 := by rw [← hT21]; rfl
  have HV := Lib.hid (show isWord x = if x = T0 then true else if x = T1 then true else if x = T2 then true else if x = T3 then true else if x = T4 then true else if x = T5 then true else if x = T6 then true else if x = T7 then true else if x = T8 then true else if x = T9 then true else if x = T10 then true else if x = T11 then true else if x = T12 then true else if x = T13 then true else if x = T14 then true else if x = T15 then true else if x = T16 then true else if x = T17 then true else if x = T18 then true else if x = T19 then true else if x = T20 then true else if x = T21 then true else false from by rw [← hT0, ← hT1, ← hT2, ← hT3, ← hT4, ← hT5, ← hT6, ← hT7, ← hT8, ← hT9, ← hT10, ← hT11, ← hT12, ← hT13, ← hT14, ← hT15, ← hT16, ← hT17, ← hT18, ← hT19, ← hT20, ← hT21]; exact isWord_if x)
  obtain ⟨y, hy⟩ : ∃ y, isWord x = y := ⟨_, rfl⟩
  rw [hy] at HV ⊢
  clear hy hT0 hT1 hT2 hT3 hT4 hT5 hT6 hT7 hT8 hT9 hT10 hT11 hT12 hT13 hT14 hT15 hT16 hT17 hT18 hT19 hT20 hT21
  by_cases h0 : x = T0
  · rw [show y = true from by have := HV.out; rw [if_pos h0] at this; exact this]
    have q0 : ((bs x).toList == (bs T0).toList) = true := by rw [h0]; simp
    clear h0
    go_enter Tryz.func96, Tryz.ntmps96
    go_wp2_with fail
    go_ret
    exact ⟨by rfl, Below.refl _ _⟩
  have q0 := bs_eq_no h0
  by_cases h1 : x = T1
  · rw [show y = true from by have := HV.out; rw [if_neg h0, if_pos h1] at this; exact this]
    have q1 : ((bs x).toList == (bs T1).toList) = true := by rw [h1]; simp
    clear h0 h1
    go_enter Tryz.func96, Tryz.ntmps96
    go_wp2_with fail
    go_ret
    exact ⟨by rfl, Below.refl _ _⟩
  have q1 := bs_eq_no h1
  by_cases h2 : x = T2
  · rw [show y = true from by have := HV.out; rw [if_neg h0, if_neg h1, if_pos h2] at this; exact this]
    have q2 : ((bs x).toList == (bs T2).toList) = true := by rw [h2]; simp
    clear h0 h1 h2
    go_enter Tryz.func96, Tryz.ntmps96
    go_wp2_with fail
    go_ret
    exact ⟨by rfl, Below.refl _ _⟩
  have q2 := bs_eq_no h2
  by_cases h3 : x = T3
  · rw [show y = true from by have := HV.out; rw [if_neg h0, if_neg h1, if_neg h2, if_pos h3] at this; exact this]
    have q3 : ((bs x).toList == (bs T3).toList) = true := by rw [h3]; simp
    clear h0 h1 h2 h3
    go_enter Tryz.func96, Tryz.ntmps96
    go_wp2_with fail
    go_ret
    exact ⟨by rfl, Below.refl _ _⟩
  have q3 := bs_eq_no h3
  by_cases h4 : x = T4
  · rw [show y = true from by have := HV.out; rw [if_neg h0, if_neg h1, if_neg h2, if_neg h3, if_pos h4] at this; exact this]
    have q4 : ((bs x).toList == (bs T4).toList) = true := by rw [h4]; simp
    clear h0 h1 h2 h3 h4
    go_enter Tryz.func96, Tryz.ntmps96
    go_wp2_with fail
    go_ret
    exact ⟨by rfl, Below.refl _ _⟩
  have q4 := bs_eq_no h4
  by_cases h5 : x = T5
  · rw [show y = true from by have := HV.out; rw [if_neg h0, if_neg h1, if_neg h2, if_neg h3, if_neg h4, if_pos h5] at this; exact this]
    have q5 : ((bs x).toList == (bs T5).toList) = true := by rw [h5]; simp
    clear h0 h1 h2 h3 h4 h5
    go_enter Tryz.func96, Tryz.ntmps96
    go_wp2_with fail
    go_ret
    exact ⟨by rfl, Below.refl _ _⟩
  have q5 := bs_eq_no h5
  by_cases h6 : x = T6
  · rw [show y = true from by have := HV.out; rw [if_neg h0, if_neg h1, if_neg h2, if_neg h3, if_neg h4, if_neg h5, if_pos h6] at this; exact this]
    have q6 : ((bs x).toList == (bs T6).toList) = true := by rw [h6]; simp
    clear h0 h1 h2 h3 h4 h5 h6
    go_enter Tryz.func96, Tryz.ntmps96
    go_wp2_with fail
    go_ret
    exact ⟨by rfl, Below.refl _ _⟩
  have q6 := bs_eq_no h6
  by_cases h7 : x = T7
  · rw [show y = true from by have := HV.out; rw [if_neg h0, if_neg h1, if_neg h2, if_neg h3, if_neg h4, if_neg h5, if_neg h6, if_pos h7] at this; exact this]
    have q7 : ((bs x).toList == (bs T7).toList) = true := by rw [h7]; simp
    clear h0 h1 h2 h3 h4 h5 h6 h7
    go_enter Tryz.func96, Tryz.ntmps96
    go_wp2_with fail
    go_ret
    exact ⟨by rfl, Below.refl _ _⟩
  have q7 := bs_eq_no h7
  by_cases h8 : x = T8
  · rw [show y = true from by have := HV.out; rw [if_neg h0, if_neg h1, if_neg h2, if_neg h3, if_neg h4, if_neg h5, if_neg h6, if_neg h7, if_pos h8] at this; exact this]
    have q8 : ((bs x).toList == (bs T8).toList) = true := by rw [h8]; simp
    clear h0 h1 h2 h3 h4 h5 h6 h7 h8
    go_enter Tryz.func96, Tryz.ntmps96
    go_wp2_with fail
    go_ret
    exact ⟨by rfl, Below.refl _ _⟩
  have q8 := bs_eq_no h8
  by_cases h9 : x = T9
  · rw [show y = true from by have := HV.out; rw [if_neg h0, if_neg h1, if_neg h2, if_neg h3, if_neg h4, if_neg h5, if_neg h6, if_neg h7, if_neg h8, if_pos h9] at this; exact this]
    have q9 : ((bs x).toList == (bs T9).toList) = true := by rw [h9]; simp
    clear h0 h1 h2 h3 h4 h5 h6 h7 h8 h9
    go_enter Tryz.func96, Tryz.ntmps96
    go_wp2_with fail
    go_ret
    exact ⟨by rfl, Below.refl _ _⟩
  have q9 := bs_eq_no h9
  by_cases h10 : x = T10
  · rw [show y = true from by have := HV.out; rw [if_neg h0, if_neg h1, if_neg h2, if_neg h3, if_neg h4, if_neg h5, if_neg h6, if_neg h7, if_neg h8, if_neg h9, if_pos h10] at this; exact this]
    have q10 : ((bs x).toList == (bs T10).toList) = true := by rw [h10]; simp
    clear h0 h1 h2 h3 h4 h5 h6 h7 h8 h9 h10
    go_enter Tryz.func96, Tryz.ntmps96
    go_wp2_with fail
    go_ret
    exact ⟨by rfl, Below.refl _ _⟩
  have q10 := bs_eq_no h10
  by_cases h11 : x = T11
  · rw [show y = true from by have := HV.out; rw [if_neg h0, if_neg h1, if_neg h2, if_neg h3, if_neg h4, if_neg h5, if_neg h6, if_neg h7, if_neg h8, if_neg h9, if_neg h10, if_pos h11] at this; exact this]
    have q11 : ((bs x).toList == (bs T11).toList) = true := by rw [h11]; simp
    clear h0 h1 h2 h3 h4 h5 h6 h7 h8 h9 h10 h11
    go_enter Tryz.func96, Tryz.ntmps96
    go_wp2_with fail
    go_ret
    exact ⟨by rfl, Below.refl _ _⟩
  have q11 := bs_eq_no h11
  by_cases h12 : x = T12
  · rw [show y = true from by have := HV.out; rw [if_neg h0, if_neg h1, if_neg h2, if_neg h3, if_neg h4, if_neg h5, if_neg h6, if_neg h7, if_neg h8, if_neg h9, if_neg h10, if_neg h11, if_pos h12] at this; exact this]
    have q12 : ((bs x).toList == (bs T12).toList) = true := by rw [h12]; simp
    clear h0 h1 h2 h3 h4 h5 h6 h7 h8 h9 h10 h11 h12
    go_enter Tryz.func96, Tryz.ntmps96
    go_wp2_with fail
    go_ret
    exact ⟨by rfl, Below.refl _ _⟩
  have q12 := bs_eq_no h12
  by_cases h13 : x = T13
  · rw [show y = true from by have := HV.out; rw [if_neg h0, if_neg h1, if_neg h2, if_neg h3, if_neg h4, if_neg h5, if_neg h6, if_neg h7, if_neg h8, if_neg h9, if_neg h10, if_neg h11, if_neg h12, if_pos h13] at this; exact this]
    have q13 : ((bs x).toList == (bs T13).toList) = true := by rw [h13]; simp
    clear h0 h1 h2 h3 h4 h5 h6 h7 h8 h9 h10 h11 h12 h13
    go_enter Tryz.func96, Tryz.ntmps96
    go_wp2_with fail
    go_ret
    exact ⟨by rfl, Below.refl _ _⟩
  have q13 := bs_eq_no h13
  by_cases h14 : x = T14
  · rw [show y = true from by have := HV.out; rw [if_neg h0, if_neg h1, if_neg h2, if_neg h3, if_neg h4, if_neg h5, if_neg h6, if_neg h7, if_neg h8, if_neg h9, if_neg h10, if_neg h11, if_neg h12, if_neg h13, if_pos h14] at this; exact this]
    have q14 : ((bs x).toList == (bs T14).toList) = true := by rw [h14]; simp
    clear h0 h1 h2 h3 h4 h5 h6 h7 h8 h9 h10 h11 h12 h13 h14
    go_enter Tryz.func96, Tryz.ntmps96
    go_wp2_with fail
    go_ret
    exact ⟨by rfl, Below.refl _ _⟩
  have q14 := bs_eq_no h14
  by_cases h15 : x = T15
  · rw [show y = true from by have := HV.out; rw [if_neg h0, if_neg h1, if_neg h2, if_neg h3, if_neg h4, if_neg h5, if_neg h6, if_neg h7, if_neg h8, if_neg h9, if_neg h10, if_neg h11, if_neg h12, if_neg h13, if_neg h14, if_pos h15] at this; exact this]
    have q15 : ((bs x).toList == (bs T15).toList) = true := by rw [h15]; simp
    clear h0 h1 h2 h3 h4 h5 h6 h7 h8 h9 h10 h11 h12 h13 h14 h15
    go_enter Tryz.func96, Tryz.ntmps96
    go_wp2_with fail
    go_ret
    exact ⟨by rfl, Below.refl _ _⟩
  have q15 := bs_eq_no h15
  by_cases h16 : x = T16
  · rw [show y = true from by have := HV.out; rw [if_neg h0, if_neg h1, if_neg h2, if_neg h3, if_neg h4, if_neg h5, if_neg h6, if_neg h7, if_neg h8, if_neg h9, if_neg h10, if_neg h11, if_neg h12, if_neg h13, if_neg h14, if_neg h15, if_pos h16] at this; exact this]
    have q16 : ((bs x).toList == (bs T16).toList) = true := by rw [h16]; simp
    clear h0 h1 h2 h3 h4 h5 h6 h7 h8 h9 h10 h11 h12 h13 h14 h15 h16
    go_enter Tryz.func96, Tryz.ntmps96
    go_wp2_with fail
    go_ret
    exact ⟨by rfl, Below.refl _ _⟩
  have q16 := bs_eq_no h16
  by_cases h17 : x = T17
  · rw [show y = true from by have := HV.out; rw [if_neg h0, if_neg h1, if_neg h2, if_neg h3, if_neg h4, if_neg h5, if_neg h6, if_neg h7, if_neg h8, if_neg h9, if_neg h10, if_neg h11, if_neg h12, if_neg h13, if_neg h14, if_neg h15, if_neg h16, if_pos h17] at this; exact this]
    have q17 : ((bs x).toList == (bs T17).toList) = true := by rw [h17]; simp
    clear h0 h1 h2 h3 h4 h5 h6 h7 h8 h9 h10 h11 h12 h13 h14 h15 h16 h17
    go_enter Tryz.func96, Tryz.ntmps96
    go_wp2_with fail
    go_ret
    exact ⟨by rfl, Below.refl _ _⟩
  have q17 := bs_eq_no h17
  by_cases h18 : x = T18
  · rw [show y = true from by have := HV.out; rw [if_neg h0, if_neg h1, if_neg h2, if_neg h3, if_neg h4, if_neg h5, if_neg h6, if_neg h7, if_neg h8, if_neg h9, if_neg h10, if_neg h11, if_neg h12, if_neg h13, if_neg h14, if_neg h15, if_neg h16, if_neg h17, if_pos h18] at this; exact this]
    have q18 : ((bs x).toList == (bs T18).toList) = true := by rw [h18]; simp
    clear h0 h1 h2 h3 h4 h5 h6 h7 h8 h9 h10 h11 h12 h13 h14 h15 h16 h17 h18
    go_enter Tryz.func96, Tryz.ntmps96
    go_wp2_with fail
    go_ret
    exact ⟨by rfl, Below.refl _ _⟩
  have q18 := bs_eq_no h18
  by_cases h19 : x = T19
  · rw [show y = true from by have := HV.out; rw [if_neg h0, if_neg h1, if_neg h2, if_neg h3, if_neg h4, if_neg h5, if_neg h6, if_neg h7, if_neg h8, if_neg h9, if_neg h10, if_neg h11, if_neg h12, if_neg h13, if_neg h14, if_neg h15, if_neg h16, if_neg h17, if_neg h18, if_pos h19] at this; exact this]
    have q19 : ((bs x).toList == (bs T19).toList) = true := by rw [h19]; simp
    clear h0 h1 h2 h3 h4 h5 h6 h7 h8 h9 h10 h11 h12 h13 h14 h15 h16 h17 h18 h19
    go_enter Tryz.func96, Tryz.ntmps96
    go_wp2_with fail
    go_ret
    exact ⟨by rfl, Below.refl _ _⟩
  have q19 := bs_eq_no h19
  by_cases h20 : x = T20
  · rw [show y = true from by have := HV.out; rw [if_neg h0, if_neg h1, if_neg h2, if_neg h3, if_neg h4, if_neg h5, if_neg h6, if_neg h7, if_neg h8, if_neg h9, if_neg h10, if_neg h11, if_neg h12, if_neg h13, if_neg h14, if_neg h15, if_neg h16, if_neg h17, if_neg h18, if_neg h19, if_pos h20] at this; exact this]
    have q20 : ((bs x).toList == (bs T20).toList) = true := by rw [h20]; simp
    clear h0 h1 h2 h3 h4 h5 h6 h7 h8 h9 h10 h11 h12 h13 h14 h15 h16 h17 h18 h19 h20
    go_enter Tryz.func96, Tryz.ntmps96
    go_wp2_with fail
    go_ret
    exact ⟨by rfl, Below.refl _ _⟩
  have q20 := bs_eq_no h20
  by_cases h21 : x = T21
  · rw [show y = true from by have := HV.out; rw [if_neg h0, if_neg h1, if_neg h2, if_neg h3, if_neg h4, if_neg h5, if_neg h6, if_neg h7, if_neg h8, if_neg h9, if_neg h10, if_neg h11, if_neg h12, if_neg h13, if_neg h14, if_neg h15, if_neg h16, if_neg h17, if_neg h18, if_neg h19, if_neg h20, if_pos h21] at this; exact this]
    have q21 : ((bs x).toList == (bs T21).toList) = true := by rw [h21]; simp
    clear h0 h1 h2 h3 h4 h5 h6 h7 h8 h9 h10 h11 h12 h13 h14 h15 h16 h17 h18 h19 h20 h21
    go_enter Tryz.func96, Tryz.ntmps96
    go_wp2_with fail
    go_ret
    exact ⟨by rfl, Below.refl _ _⟩
  have q21 := bs_eq_no h21
  rw [show y = false from by have := HV.out; rw [if_neg h0, if_neg h1, if_neg h2, if_neg h3, if_neg h4, if_neg h5, if_neg h6, if_neg h7, if_neg h8, if_neg h9, if_neg h10, if_neg h11, if_neg h12, if_neg h13, if_neg h14, if_neg h15, if_neg h16, if_neg h17, if_neg h18, if_neg h19, if_neg h20, if_neg h21] at this; exact this]
  clear h0 h1 h2 h3 h4 h5 h6 h7 h8 h9 h10 h11 h12 h13 h14 h15 h16 h17 h18 h19 h20 h21
  go_enter Tryz.func96, Tryz.ntmps96
  go_wp2_with fail
  go_ret
  exact ⟨by rfl, Below.refl _ _⟩
end Go.Proofs.YtganlldidjbpiaaGreatDoor

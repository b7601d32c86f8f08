/- RatioNearest: the cases joined. -/
import Derived.Test.YtaojdlcailpheaaQM6z
import Derived.Test.YtaojdlcailpheaaQM6p
import Derived.Test.YtaojdlcailpheaaQM6n
import Derived.Test.YtaojdlcailpheaaQNs
set_option linter.unusedVariables false
namespace Go.Proofs.Ytaojdlcailpheaa
open Go.RowKit

theorem nearest_walk (w : World) (n d : Int) (den : Nat) (n0 : -32768 ≤ n) (n1 : n ≤ 32767) (d0 : -32768 ≤ d) (d1 : d ≤ 32767) (hden : den < 256) :
    Calls Try.prog 11 #[.int .i16 n, .int .i16 d, .int .u8 (den : Int)] w fun e w' => e = .returned (.bool true) ∧ Below w.heap.size w w' := by
  obtain ⟨N, hN⟩ : ∃ N : Nat, 1 + den % 40 = N := ⟨_, rfl⟩
  have hN1 : 1 + (den : Int) % 40 = (N : Int) := by omega
  have hN2 : 1 + ((den % 40 : Nat) : Int) = (N : Int) := by omega
  have hN3 : ((1 + den % 40 : Nat) : Int) = (N : Int) := by omega
  have Nl : (1 : Int) ≤ N := by omega
  have Nh : (N : Int) ≤ 40 := by omega
  have cz : d = 0 → Calls Try.prog 11 #[.int .i16 n, .int .i16 d, .int .u8 (den : Int)] w (fun e w' => e = .returned (.bool true) ∧ Below w.heap.size w w') := fun hd => by
    subst hd
    have hs := small_sm n0 n1 (show (-32768 : Int) ≤ 0 by omega) (show (0 : Int) ≤ 32767 by omega)
    obtain ⟨u, p, q, e, ok, hp, hn⟩ := near_rep hs.1 (N := N) (by omega) (by omega)
    have hz : smZ n 0 = n := by unfold smZ; rw [if_pos rfl]
    have hdd : ((smD 0 : Nat) : Int) = 1 := rfl
    rw [hz] at hn hp
    have hfit : ∀ (m : Int) (j : Nat), 1 ≤ j → (j : Int) ≤ (N : Int) → _ := fun m j h1 h2 => near_fits hn m j h1 (by omega)
    rw [hdd] at hfit
    have hq := hn.2.1
    obtain ⟨X, hX⟩ : ∃ X, smallF n 0 = X := ⟨_, rfl⟩
    rw [hX] at e
    have HV : Hid (ValidF (fr u p q)) := validF_fr.2 ok
    have HQ : Hid (limbs q = [q]) := limbs_small ok.pos (by omega)
    have q0 := ok.pos
    have hkN : decide ((N : Int) < (q : Int)) = false := decide_eq_false (by omega)
    cases u with
    | true =>
      have hp0 : 0 < p := Nat.pos_of_ne_zero fun h => by have := ok.sign h; cases this
      rw [show sg true p = -(p : Int) from rfl] at hfit
      exact near_zn w n den q p X N q (-(p : Int)) n0 n1 hden hN1 hN2 hN3 Nl Nh rfl (by omega) (by omega) hkN rfl (by omega) (by omega) hp0 (by omega) (Lib.hid hX) (Lib.hid e) HV HQ (limbs_small hp0 (by omega)) (Lib.hid hfit)
    | false =>
      rw [show sg false p = (p : Int) from rfl] at hfit
      by_cases hp0 : p = 0
      · subst hp0
        rw [show ((0 : Nat) : Int) = 0 from rfl] at hfit
        exact near_zz w n den q X N q 0 n0 n1 hden hN1 hN2 hN3 Nl Nh rfl (by omega) (by omega) hkN rfl (by omega) (by omega) (Lib.hid hX) (Lib.hid e) HV HQ (Lib.hid hfit)
      · replace hp0 := Nat.pos_of_ne_zero hp0
        exact near_zp w n den q p X N q (p : Int) n0 n1 hden hN1 hN2 hN3 Nl Nh rfl (by omega) (by omega) hkN rfl (by omega) (by omega) hp0 (by omega) (Lib.hid hX) (Lib.hid e) HV HQ (limbs_small hp0 (by omega)) (Lib.hid hfit)
  have cp : 0 < d → Calls Try.prog 11 #[.int .i16 n, .int .i16 d, .int .u8 (den : Int)] w (fun e w' => e = .returned (.bool true) ∧ Below w.heap.size w w') := fun hd => by
    have hs := small_sm n0 n1 d0 d1
    obtain ⟨u, p, q, e, ok, hp, hn⟩ := near_rep hs.1 (N := N) (by omega) (by omega)
    have hz : smZ n d = n := by unfold smZ; rw [if_neg (by omega), Int.sign_eq_one_of_pos hd, Int.mul_one]
    have hdd : ((smD d : Nat) : Int) = d := by unfold smD; rw [if_neg (by omega)]; omega
    rw [hz] at hn hp
    have hfit : ∀ (m : Int) (j : Nat), 1 ≤ j → (j : Int) ≤ (N : Int) → _ := fun m j h1 h2 => near_fits hn m j h1 (by omega)
    rw [hdd] at hfit
    have hq := hn.2.1
    obtain ⟨X, hX⟩ : ∃ X, smallF n d = X := ⟨_, rfl⟩
    rw [hX] at e
    have HV : Hid (ValidF (fr u p q)) := validF_fr.2 ok
    have HQ : Hid (limbs q = [q]) := limbs_small ok.pos (by omega)
    have q0 := ok.pos
    have hkN : decide ((N : Int) < (q : Int)) = false := decide_eq_false (by omega)
    cases u with
    | true =>
      have hp0 : 0 < p := Nat.pos_of_ne_zero fun h => by have := ok.sign h; cases this
      rw [show sg true p = -(p : Int) from rfl] at hfit
      exact near_pn w n d den q p X N q (-(p : Int)) n0 n1 d0 d1 hd hden hN1 hN2 hN3 Nl Nh rfl (by omega) (by omega) hkN rfl (by omega) (by omega) hp0 (by omega) (Lib.hid hX) (Lib.hid e) HV HQ (limbs_small hp0 (by omega)) (Lib.hid hfit)
    | false =>
      rw [show sg false p = (p : Int) from rfl] at hfit
      by_cases hp0 : p = 0
      · subst hp0
        rw [show ((0 : Nat) : Int) = 0 from rfl] at hfit
        exact near_pz w n d den q X N q 0 n0 n1 d0 d1 hd hden hN1 hN2 hN3 Nl Nh rfl (by omega) (by omega) hkN rfl (by omega) (by omega) (Lib.hid hX) (Lib.hid e) HV HQ (Lib.hid hfit)
      · replace hp0 := Nat.pos_of_ne_zero hp0
        exact near_pp w n d den q p X N q (p : Int) n0 n1 d0 d1 hd hden hN1 hN2 hN3 Nl Nh rfl (by omega) (by omega) hkN rfl (by omega) (by omega) hp0 (by omega) (Lib.hid hX) (Lib.hid e) HV HQ (limbs_small hp0 (by omega)) (Lib.hid hfit)
  have cn : d < 0 → Calls Try.prog 11 #[.int .i16 n, .int .i16 d, .int .u8 (den : Int)] w (fun e w' => e = .returned (.bool true) ∧ Below w.heap.size w w') := fun hd => by
    have hs := small_sm n0 n1 d0 d1
    obtain ⟨u, p, q, e, ok, hp, hn⟩ := near_rep hs.1 (N := N) (by omega) (by omega)
    have hz : smZ n d = -n := by unfold smZ; rw [if_neg (by omega), Int.sign_eq_neg_one_of_neg hd]; omega
    have hdd : ((smD d : Nat) : Int) = -d := by unfold smD; rw [if_neg (by omega)]; omega
    rw [hz] at hn hp
    have hfit : ∀ (m : Int) (j : Nat), 1 ≤ j → (j : Int) ≤ (N : Int) → _ := fun m j h1 h2 => near_fits hn m j h1 (by omega)
    rw [hdd] at hfit
    have hq := hn.2.1
    obtain ⟨X, hX⟩ : ∃ X, smallF n d = X := ⟨_, rfl⟩
    rw [hX] at e
    have HV : Hid (ValidF (fr u p q)) := validF_fr.2 ok
    have HQ : Hid (limbs q = [q]) := limbs_small ok.pos (by omega)
    have q0 := ok.pos
    have hkN : decide ((N : Int) < (q : Int)) = false := decide_eq_false (by omega)
    cases u with
    | true =>
      have hp0 : 0 < p := Nat.pos_of_ne_zero fun h => by have := ok.sign h; cases this
      rw [show sg true p = -(p : Int) from rfl] at hfit
      exact near_nn w n d den q p X N q (-(p : Int)) (-n) (-d) n0 n1 d0 d1 hd rfl rfl (by omega) (by omega) (by omega) (by omega) hden hN1 hN2 hN3 Nl Nh rfl (by omega) (by omega) hkN rfl (by omega) (by omega) hp0 (by omega) (Lib.hid hX) (Lib.hid e) HV HQ (limbs_small hp0 (by omega)) (Lib.hid hfit)
    | false =>
      rw [show sg false p = (p : Int) from rfl] at hfit
      by_cases hp0 : p = 0
      · subst hp0
        rw [show ((0 : Nat) : Int) = 0 from rfl] at hfit
        exact near_nz w n d den q X N q 0 (-n) (-d) n0 n1 d0 d1 hd rfl rfl (by omega) (by omega) (by omega) (by omega) hden hN1 hN2 hN3 Nl Nh rfl (by omega) (by omega) hkN rfl (by omega) (by omega) (Lib.hid hX) (Lib.hid e) HV HQ (Lib.hid hfit)
      · replace hp0 := Nat.pos_of_ne_zero hp0
        exact near_np w n d den q p X N q (p : Int) (-n) (-d) n0 n1 d0 d1 hd rfl rfl (by omega) (by omega) (by omega) (by omega) hden hN1 hN2 hN3 Nl Nh rfl (by omega) (by omega) hkN rfl (by omega) (by omega) hp0 (by omega) (Lib.hid hX) (Lib.hid e) HV HQ (limbs_small hp0 (by omega)) (Lib.hid hfit)
  rcases Int.lt_trichotomy d 0 with h | h | h
  · exact cn h
  · exact cz h
  · exact cp h
end Go.Proofs.Ytaojdlcailpheaa

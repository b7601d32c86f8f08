/- Syntax, the reference: formOf, number, isName, scope, word, decimal. -/
import Derived.Test.YtganlldidjbpiaaGreatDoorQSyU4
import Derived.Test.YtganlldidjbpiaaGreatDoorQLexV5
set_option linter.unusedVariables false
namespace Go.Proofs.YtganlldidjbpiaaGreatDoor
open Go.RowKit Go.Shelf

/-- The form of a kind: names, domain, index, a, b, item; and whether it is a kind. -/
def formF (k : Nat) : (Int × Bool × Bool × Bool × Bool × Bool) × Bool := if k = 1 then ((1, false, false, false, false, false), true) else if k = 2 then ((0, true, true, true, true, false), true) else if k = 3 then ((0, true, true, false, false, false), true) else if k = 4 then ((0, false, false, true, false, false), true) else if k = 5 then ((0, false, true, true, false, false), true) else if k = 6 then ((0, false, false, true, false, true), true) else if k = 7 then ((0, false, false, true, false, true), true) else if k = 8 then ((0, false, false, true, false, true), true) else if k = 12 then ((0, false, false, true, false, true), true) else if k = 9 then ((0, true, false, true, false, true), true) else if k = 10 then ((-1, false, false, false, false, true), true) else if k = 11 then ((1, false, false, true, false, true), true) else ((0, false, false, false, false, false), false)
set_option maxRecDepth 100000 in
set_option maxHeartbeats 8000000 in
theorem rformOf_c (w : World) (k : Nat) (hk : k < 256) : Calls Tryz.prog 62 #[.int .u8 (k : Int)] w fun e w' => e = .returned (.tuple #[.agg #[.int .i64 (formF k).1.1, .bool (formF k).1.2.1, .bool (formF k).1.2.2.1, .bool (formF k).1.2.2.2.1, .bool (formF k).1.2.2.2.2.1, .bool (formF k).1.2.2.2.2.2], .bool (formF k).2]) ∧ Below w.heap.size w w' := by
  by_cases h1 : k = 1
  · rw [show formF k = ((1, false, false, false, false, false), true) from by rw [h1]; rfl]
    rw [h1]
    clear h1
    go_enter Tryz.func62, Tryz.ntmps62
    go_wp2_with fail
    refine bodyPost_ret (v := .tuple #[.agg #[.int .i64 (1), .bool false, .bool false, .bool false, .bool false, .bool false], .bool true]) (by simp [results, Tryz.results62, go_sem]) rfl ?_
    exact ⟨rfl, held_alloc (Below.refl _ _)⟩
  · by_cases h2 : k = 2
    · rw [show formF k = ((0, true, true, true, true, false), true) from by rw [h2]; rfl]
      rw [h2]
      clear h1 h2
      go_enter Tryz.func62, Tryz.ntmps62
      go_wp2_with fail
      refine bodyPost_ret (v := .tuple #[.agg #[.int .i64 (0), .bool true, .bool true, .bool true, .bool true, .bool false], .bool true]) (by simp [results, Tryz.results62, go_sem]) rfl ?_
      exact ⟨rfl, held_alloc (Below.refl _ _)⟩
    · by_cases h3 : k = 3
      · rw [show formF k = ((0, true, true, false, false, false), true) from by rw [h3]; rfl]
        rw [h3]
        clear h1 h2 h3
        go_enter Tryz.func62, Tryz.ntmps62
        go_wp2_with fail
        refine bodyPost_ret (v := .tuple #[.agg #[.int .i64 (0), .bool true, .bool true, .bool false, .bool false, .bool false], .bool true]) (by simp [results, Tryz.results62, go_sem]) rfl ?_
        exact ⟨rfl, held_alloc (Below.refl _ _)⟩
      · by_cases h4 : k = 4
        · rw [show formF k = ((0, false, false, true, false, false), true) from by rw [h4]; rfl]
          rw [h4]
          clear h1 h2 h3 h4
          go_enter Tryz.func62, Tryz.ntmps62
          go_wp2_with fail
          refine bodyPost_ret (v := .tuple #[.agg #[.int .i64 (0), .bool false, .bool false, .bool true, .bool false, .bool false], .bool true]) (by simp [results, Tryz.results62, go_sem]) rfl ?_
          exact ⟨rfl, held_alloc (Below.refl _ _)⟩
        · by_cases h5 : k = 5
          · rw [show formF k = ((0, false, true, true, false, false), true) from by rw [h5]; rfl]
            rw [h5]
            clear h1 h2 h3 h4 h5
            go_enter Tryz.func62, Tryz.ntmps62
            go_wp2_with fail
            refine bodyPost_ret (v := .tuple #[.agg #[.int .i64 (0), .bool false, .bool true, .bool true, .bool false, .bool false], .bool true]) (by simp [results, Tryz.results62, go_sem]) rfl ?_
            exact ⟨rfl, held_alloc (Below.refl _ _)⟩
          · by_cases h6 : k = 6
            · rw [show formF k = ((0, false, false, true, false, true), true) from by rw [h6]; rfl]
              rw [h6]
              clear h1 h2 h3 h4 h5 h6
              go_enter Tryz.func62, Tryz.ntmps62
              go_wp2_with fail
              refine bodyPost_ret (v := .tuple #[.agg #[.int .i64 (0), .bool false, .bool false, .bool true, .bool false, .bool true], .bool true]) (by simp [results, Tryz.results62, go_sem]) rfl ?_
              exact ⟨rfl, held_alloc (Below.refl _ _)⟩
            · by_cases h7 : k = 7
              · rw [show formF k = ((0, false, false, true, false, true), true) from by rw [h7]; rfl]
                rw [h7]
                clear h1 h2 h3 h4 h5 h6 h7
                go_enter Tryz.func62, Tryz.ntmps62
                go_wp2_with fail
                refine bodyPost_ret (v := .tuple #[.agg #[.int .i64 (0), .bool false, .bool false, .bool true, .bool false, .bool true], .bool true]) (by simp [results, Tryz.results62, go_sem]) rfl ?_
                exact ⟨rfl, held_alloc (Below.refl _ _)⟩
              · by_cases h8 : k = 8
                · rw [show formF k = ((0, false, false, true, false, true), true) from by rw [h8]; rfl]
                  rw [h8]
                  clear h1 h2 h3 h4 h5 h6 h7 h8
                  go_enter Tryz.func62, Tryz.ntmps62
                  go_wp2_with fail
                  refine bodyPost_ret (v := .tuple #[.agg #[.int .i64 (0), .bool false, .bool false, .bool true, .bool false, .bool true], .bool true]) (by simp [results, Tryz.results62, go_sem]) rfl ?_
                  exact ⟨rfl, held_alloc (Below.refl _ _)⟩
                · by_cases h12 : k = 12
                  · rw [show formF k = ((0, false, false, true, false, true), true) from by rw [h12]; rfl]
                    rw [h12]
                    clear h1 h2 h3 h4 h5 h6 h7 h8 h12
                    go_enter Tryz.func62, Tryz.ntmps62
                    go_wp2_with fail
                    refine bodyPost_ret (v := .tuple #[.agg #[.int .i64 (0), .bool false, .bool false, .bool true, .bool false, .bool true], .bool true]) (by simp [results, Tryz.results62, go_sem]) rfl ?_
                    exact ⟨rfl, held_alloc (Below.refl _ _)⟩
                  · by_cases h9 : k = 9
                    · rw [show formF k = ((0, true, false, true, false, true), true) from by rw [h9]; rfl]
                      rw [h9]
                      clear h1 h2 h3 h4 h5 h6 h7 h8 h12 h9
                      go_enter Tryz.func62, Tryz.ntmps62
                      go_wp2_with fail
                      refine bodyPost_ret (v := .tuple #[.agg #[.int .i64 (0), .bool true, .bool false, .bool true, .bool false, .bool true], .bool true]) (by simp [results, Tryz.results62, go_sem]) rfl ?_
                      exact ⟨rfl, held_alloc (Below.refl _ _)⟩
                    · by_cases h10 : k = 10
                      · rw [show formF k = ((-1, false, false, false, false, true), true) from by rw [h10]; rfl]
                        rw [h10]
                        clear h1 h2 h3 h4 h5 h6 h7 h8 h12 h9 h10
                        go_enter Tryz.func62, Tryz.ntmps62
                        go_wp2_with fail
                        refine bodyPost_ret (v := .tuple #[.agg #[.int .i64 (-1), .bool false, .bool false, .bool false, .bool false, .bool true], .bool true]) (by simp [results, Tryz.results62, go_sem]) rfl ?_
                        exact ⟨rfl, held_alloc (Below.refl _ _)⟩
                      · by_cases h11 : k = 11
                        · rw [show formF k = ((1, false, false, true, false, true), true) from by rw [h11]; rfl]
                          rw [h11]
                          clear h1 h2 h3 h4 h5 h6 h7 h8 h12 h9 h10 h11
                          go_enter Tryz.func62, Tryz.ntmps62
                          go_wp2_with fail
                          refine bodyPost_ret (v := .tuple #[.agg #[.int .i64 (1), .bool false, .bool false, .bool true, .bool false, .bool true], .bool true]) (by simp [results, Tryz.results62, go_sem]) rfl ?_
                          exact ⟨rfl, held_alloc (Below.refl _ _)⟩
                        · have q1 : ((k : Int) == 1) = false := by simp; omega
                          have q2 : ((k : Int) == 2) = false := by simp; omega
                          have q3 : ((k : Int) == 3) = false := by simp; omega
                          have q4 : ((k : Int) == 4) = false := by simp; omega
                          have q5 : ((k : Int) == 5) = false := by simp; omega
                          have q6 : ((k : Int) == 6) = false := by simp; omega
                          have q7 : ((k : Int) == 7) = false := by simp; omega
                          have q8 : ((k : Int) == 8) = false := by simp; omega
                          have q12 : ((k : Int) == 12) = false := by simp; omega
                          have q9 : ((k : Int) == 9) = false := by simp; omega
                          have q10 : ((k : Int) == 10) = false := by simp; omega
                          have q11 : ((k : Int) == 11) = false := by simp; omega
                          rw [show formF k = ((0, false, false, false, false, false), false) from by unfold formF; rw [if_neg h1, if_neg h2, if_neg h3, if_neg h4, if_neg h5, if_neg h6, if_neg h7, if_neg h8, if_neg h12, if_neg h9, if_neg h10, if_neg h11]]
                          clear h1 h2 h3 h4 h5 h6 h7 h8 h12 h9 h10 h11
                          go_enter Tryz.func62, Tryz.ntmps62
                          go_wp2_with fail
                          refine bodyPost_ret (v := .tuple #[.agg #[.int .i64 0, .bool false, .bool false, .bool false, .bool false, .bool false], .bool false]) (by simp [results, Tryz.results62, go_sem]) rfl ?_
                          exact ⟨rfl, held_alloc (Below.refl _ _)⟩
/-- A number as it has to be. -/
def numB (z : Int) (there : Bool) : Bool := if there then decide (0 ≤ z ∧ z ≤ 999999999) else decide (z = 0)
set_option maxRecDepth 100000 in
set_option maxHeartbeats 4000000 in
theorem rnumB_c (w : World) (z : Int) (b : Bool) : Calls Tryz.prog 63 #[.int .i64 z, .bool b] w (RetB w (numB z b)) := by
  cases b with
  | true =>
    by_cases h0 : 0 ≤ z
    · by_cases h1 : z ≤ 999999999
      · rw [show numB z true = true from by unfold numB; rw [if_pos rfl]; exact decide_eq_true ⟨h0, h1⟩]
        have q0 : decide (0 ≤ z) = true := decide_eq_true h0
        have q1 : decide (z ≤ 999999999) = true := decide_eq_true h1
        go_enter Tryz.func63, Tryz.ntmps63
        go_wp2_with fail
        go_ret
        exact ⟨rfl, Below.refl _ _⟩
      · rw [show numB z true = false from by unfold numB; rw [if_pos rfl]; exact decide_eq_false (fun h => h1 h.2)]
        have q0 : decide (0 ≤ z) = true := decide_eq_true h0
        have q1 : decide (z ≤ 999999999) = false := decide_eq_false h1
        go_enter Tryz.func63, Tryz.ntmps63
        go_wp2_with fail
        go_ret
        exact ⟨rfl, Below.refl _ _⟩
    · rw [show numB z true = false from by unfold numB; rw [if_pos rfl]; exact decide_eq_false (fun h => h0 h.1)]
      have q0 : decide (0 ≤ z) = false := decide_eq_false h0
      go_enter Tryz.func63, Tryz.ntmps63
      go_wp2_with fail
      go_ret
      exact ⟨rfl, Below.refl _ _⟩
  | false =>
    obtain ⟨y, hy⟩ : ∃ y, numB z false = y := ⟨_, rfl⟩
    have HY : Hid ((z == 0) = y) := by
      show _ = _
      rw [← hy]
      unfold numB
      rw [if_neg (by simp)]
      by_cases h : z = 0
      · rw [h]; rfl
      · rw [decide_eq_false h]; simpa using h
    rw [hy]
    clear hy
    go_enter Tryz.func63, Tryz.ntmps63
    go_wp2_with fail
    go_ret
    exact ⟨ret_bool HY.out, Below.refl _ _⟩
/-- Whether a text is a name. -/
def nameB (x : List UInt8) : Bool := decide (rightT ⟨1, x, 0, 0⟩) && !isWord x
set_option maxRecDepth 100000 in
set_option maxHeartbeats 4000000 in
theorem risName_c (w : World) (x : List UInt8) (hx : x.length ≤ 9223372036854775807) : Calls Tryz.prog 64 #[.string (bs x)] w (RetB w (nameB x)) := by
  obtain ⟨r, hr⟩ : ∃ r, decide (rightT ⟨1, x, 0, 0⟩) = r := ⟨_, rfl⟩
  have HR := Lib.hid hr
  have HN : Hid (nameB x = (r && !isWord x)) := by show _ = _; unfold nameB; rw [hr]
  obtain ⟨y, hy⟩ : ∃ y, nameB x = y := ⟨_, rfl⟩
  rw [hy] at HN ⊢
  clear hr hy
  go_enter Tryz.func64, Tryz.ntmps64
  go_wp2_with fail
  refine (rRight_c ⟨1, x, 0, 0⟩ _ hx).mono ?_
  rw [HR.out]
  rintro e w1 ⟨rfl, hb1⟩
  have HB1 := Lib.hid hb1
  clear hb1
  cases r with
  | false =>
    have HE : Hid (y = false) := by show _ = _; rw [HN.out]; rfl
    go_wp2_with fail
    go_ret
    exact ⟨ret_bool HE.out.symm, HB1.out⟩
  | true =>
    have HE : Hid (y = !isWord x) := by show _ = _; rw [HN.out]; rfl
    go_wp2_with fail
    refine (rWord_c _ x).mono ?_
    rintro e w2 ⟨rfl, hb2⟩
    have HB2 := Lib.hid (HB1.out.trans (hb2.mono HB1.out.size))
    clear hb2
    go_wp2_with fail
    go_ret
    exact ⟨ret_bool HE.out.symm, HB2.out⟩
def w13 : List (List UInt8) := [[], sService, sWindow, sApprove, sBlast, sCap, sCores, sReplicas, sLeast, sSpread, sApart, sNear, sFirmware]
def w13A : Array Value := (w13.map fun x => Value.string (bs x)).toArray
theorem w13_lit : (#[.string ⟨#[]⟩, .string ⟨#[115, 101, 114, 118, 105, 99, 101]⟩, .string ⟨#[119, 105, 110, 100, 111, 119]⟩, .string ⟨#[97, 112, 112, 114, 111, 118, 101]⟩, .string ⟨#[98, 108, 97, 115, 116]⟩, .string ⟨#[99, 97, 112]⟩, .string ⟨#[99, 111, 114, 101, 115]⟩, .string ⟨#[114, 101, 112, 108, 105, 99, 97, 115]⟩, .string ⟨#[108, 101, 97, 115, 116]⟩, .string ⟨#[115, 112, 114, 101, 97, 100]⟩, .string ⟨#[97, 112, 97, 114, 116]⟩, .string ⟨#[110, 101, 97, 114]⟩, .string ⟨#[102, 105, 114, 109, 119, 97, 114, 101]⟩] : Array Value) = w13A := by kernel_rfl
theorem w13_at {k : Nat} (hk : k < 13) : w13A[k]? = some (.string (bs (kindW k))) := by
  match k, hk with
  | 0, _ => rfl
  | 1, _ => rfl
  | 2, _ => rfl
  | 3, _ => rfl
  | 4, _ => rfl
  | 5, _ => rfl
  | 6, _ => rfl
  | 7, _ => rfl
  | 8, _ => rfl
  | 9, _ => rfl
  | 10, _ => rfl
  | 11, _ => rfl
  | 12, _ => rfl
set_option maxRecDepth 100000 in
set_option maxHeartbeats 4000000 in
theorem rword_c (w : World) (k : Nat) (hk : k < 13) : Calls Tryz.prog 49 #[.int .u8 (k : Int)] w fun e w' => e = .returned (.string (bs (kindW k))) ∧ Below w.heap.size w w' := by
  obtain ⟨w1, hw1⟩ : ∃ W, W = w.alloc (.cells w13A 9) := ⟨_, rfl⟩
  have hb1 : Below w.heap.size w w1 := hw1 ▸ held_alloc (Below.refl _ w)
  have bx : Box w1 w.heap.size w13A 9 := hw1 ▸ Box.new w _ _
  have kt : w1.cell? ⟨w.heap.size, k, none⟩ = some (.string (bs (kindW k))) := (bx.cell k).trans (w13_at hk)
  have hlt := bx.lt
  have i1 : (k : Int) < 13 := by omega
  have i0 : (0 : Int) ≤ (k : Int) := by omega
  have HB := Lib.hid hb1
  obtain ⟨x, hx⟩ : ∃ x, kindW k = x := ⟨_, rfl⟩
  rw [hx] at kt ⊢
  clear bx hb1 hx
  go_enter Tryz.func49, Tryz.ntmps49
  go_upto_region 2 with fail
  rw [w13_lit, ← hw1]
  clear hw1
  go_wp2_with fail
  go_ret
  exact ⟨rfl, HB.out⟩
theorem digit_at {d : Nat} (h : d < 10) : (⟨#[48, 49, 50, 51, 52, 53, 54, 55, 56, 57]⟩ : ByteArray).extract d (d + 1) = bs [UInt8.ofNat (48 + d)] := by
  match d, h with
  | 0, _ => rfl
  | 1, _ => rfl
  | 2, _ => rfl
  | 3, _ => rfl
  | 4, _ => rfl
  | 5, _ => rfl
  | 6, _ => rfl
  | 7, _ => rfl
  | 8, _ => rfl
  | 9, _ => rfl
set_option maxRecDepth 100000 in
set_option maxHeartbeats 4000000 in
theorem rdecimal_c (w : World) (n0 : Nat) (h : n0 ≤ 999999999) : Calls Tryz.prog 51 #[.int .i64 (n0 : Int)] w fun e w' => e = .returned (.string (bs (dd n0))) ∧ Below w.heap.size w w' := by
  obtain ⟨x, hx⟩ : ∃ x, dd n0 = x := ⟨_, rfl⟩
  rw [hx]
  have HX : Hid (dd n0 ++ [] = x) := by show _ = _; rw [List.append_nil]; exact hx
  have hb0 : bs ([] : List UInt8) = ⟨#[]⟩ := rfl
  obtain ⟨DG, hDG⟩ : ∃ DG : ByteArray, DG = (⟨#[48, 49, 50, 51, 52, 53, 54, 55, 56, 57]⟩ : ByteArray) := ⟨_, rfl⟩
  have HDA : Hid (∀ d, d < 10 → DG.extract d (d + 1) = bs [UInt8.ofNat (48 + d)]) := fun d hd => by rw [hDG]; exact digit_at hd
  have HDS : DG.size = 10 := by rw [hDG]; rfl
  clear hx
  go_enter Tryz.func51, Tryz.ntmps51
  rw [← hDG]
  clear hDG
  go_wp2_with fail
  go_loopg [0, 3] n0 (fun gn tn ts wx => ∃ (n : Nat) (s : List UInt8), gn = n ∧ n ≤ 999999999 ∧ s.length + (dd n).length ≤ 100 ∧ tn = .int .i64 (n : Int) ∧ ts = .string (bs s) ∧ Hid (dd n ++ s = x) ∧ Hid (Below w.heap.size w wx))
  case atStart => exact ⟨n0, [], rfl, h, by have := dd_len 9 n0 (by omega) (by omega); simp; omega, rfl, by rw [hb0], HX.out, Below.refl _ _⟩
  case round =>
    obtain ⟨n, s, hgn, hn, hsl, rfl, rfl, hs, hbl⟩ := hrel
    have hss : (bs s).size = s.length := bs_size s
    by_cases h9 : 9 < n
    · have q0 : decide ((9 : Int) < (n : Int)) = true := decide_eq_true (by omega)
      have hdb := dd_big (n := n) (by omega)
      have hmod : n % 10 < 10 := by omega
      have hdg := HDA.out (n % 10) hmod
      obtain ⟨s2, hs2⟩ : ∃ s2, [UInt8.ofNat (48 + n % 10)] ++ s = s2 := ⟨_, rfl⟩
      have e1 : bs [UInt8.ofNat (48 + n % 10)] ++ bs s = bs s2 := (append_bs _ s).trans (congrArg bs hs2)
      have hds : (bs [UInt8.ofNat (48 + n % 10)]).size = 1 := bs_size _
      have e2 : DG.extract (n % 10) (n % 10 + 1) ++ bs s = bs s2 := by rw [hdg]; exact e1
      have hds2 : (DG.extract (n % 10) (n % 10 + 1)).size = 1 := by rw [hdg]; exact hds
      clear hdg
      have HN : Hid (dd (n / 10) ++ s2 = x) := by
        show _ = _
        rw [← hs.out, hdb, ← hs2]
        simp
      have hsl2 : s2.length + (dd (n / 10)).length ≤ 100 := by
        rw [← hs2]
        rw [hdb] at hsl
        simp at hsl ⊢
        omega
      have hsl3 : s.length ≤ 100 := by omega
      have hlt : n / 10 < gk := by omega
      have j1 : (n : Int) % 10 < 10 := by omega
      have j2 : (0 : Int) ≤ (n : Int) % 10 := by omega
      clear hdb hs2 hs hsl hgn
      go_wp2_with fail
      go_roundg (n / 10)
      case measure => exact hlt
      case rel => exact ⟨n / 10, s2, rfl, by omega, hsl2, by simp, rfl, HN.out, hbl.out⟩
    · have q0 : decide ((9 : Int) < (n : Int)) = false := decide_eq_false (by omega)
      have hds := dd_small (n := n) (by omega)
      have hdg := HDA.out n (by omega)
      obtain ⟨s2, hs2⟩ : ∃ s2, [UInt8.ofNat (48 + n)] ++ s = s2 := ⟨_, rfl⟩
      have e1 : bs [UInt8.ofNat (48 + n)] ++ bs s = bs s2 := (append_bs _ s).trans (congrArg bs hs2)
      have hdz : (bs [UInt8.ofNat (48 + n)]).size = 1 := bs_size _
      have e2 : DG.extract n (n + 1) ++ bs s = bs s2 := by rw [hdg]; exact e1
      have hds2 : (DG.extract n (n + 1)).size = 1 := by rw [hdg]; exact hdz
      clear hdg
      have HN : Hid (s2 = x) := by show _ = _; rw [← hs.out, hds, ← hs2]
      have hd10 : n < 10 := by omega
      have hsl3 : s.length ≤ 100 := by omega
      have j1 : (n : Int) < 10 := by omega
      have j2 : (0 : Int) ≤ (n : Int) := by omega
      clear hds hs2 hs hsl hgn
      go_wp2_with fail
      go_ret
      rw [HN.out]
      exact ⟨rfl, hbl.out⟩
def d5 : List (List UInt8) := [sHost, sRack, sRow, sFeed, sLoop]
def d5A : Array Value := (d5.map fun x => Value.string (bs x)).toArray
theorem d5_lit : (#[.string ⟨#[104, 111, 115, 116]⟩, .string ⟨#[114, 97, 99, 107]⟩, .string ⟨#[114, 111, 119]⟩, .string ⟨#[102, 101, 101, 100]⟩, .string ⟨#[108, 111, 111, 112]⟩] : Array Value) = d5A := by kernel_rfl
theorem d5_at {k : Nat} (hk : k < 5) : d5A[k]? = some (.string (bs (d5.getD k []))) ∧ scopeN (d5.getD k []) = k + 1 ∧ domW (k + 1) = d5.getD k [] := by
  match k, hk with
  | 0, _ => exact ⟨rfl, by decide, rfl⟩
  | 1, _ => exact ⟨rfl, by decide, rfl⟩
  | 2, _ => exact ⟨rfl, by decide, rfl⟩
  | 3, _ => exact ⟨rfl, by decide, rfl⟩
  | 4, _ => exact ⟨rfl, by decide, rfl⟩
set_option maxRecDepth 100000 in
set_option maxHeartbeats 4000000 in
theorem rscopeW_c (w : World) (d : Nat) (hd : d < 256) : Calls Tryz.prog 50 #[.int .u8 (d : Int)] w fun e w' => e = .returned (.string (bs (domW d))) ∧ Below w.heap.size w w' := by
  obtain ⟨w1, hw1⟩ : ∃ W, W = w.alloc (.cells d5A 9) := ⟨_, rfl⟩
  have hb1 : Below w.heap.size w w1 := hw1 ▸ held_alloc (Below.refl _ w)
  have bx : Box w1 w.heap.size d5A 9 := hw1 ▸ Box.new w _ _
  have HBX := Lib.hid bx
  have HB := Lib.hid hb1
  have hlt := bx.lt
  obtain ⟨y, hy⟩ : ∃ y, domW d = y := ⟨_, rfl⟩
  rw [hy]
  have HY := Lib.hid hy
  clear bx hb1 hy
  go_enter Tryz.func50, Tryz.ntmps50
  go_upto_region 2 with fail
  rw [d5_lit, ← hw1]
  clear hw1
  go_wp2_with fail
  go_loopg [4] 5 (fun gn ti wx => ∃ i : Nat, i ≤ 5 ∧ gn = 5 - i ∧ ti = .int .i64 (i : Int) ∧ Hid (∀ j, j < i → d ≠ j + 1) ∧ Hid (Below w1.heap.size w1 wx))
  case atStart => exact ⟨0, by omega, rfl, rfl, fun j hj => absurd hj (by omega), Below.refl _ _⟩
  case round =>
    obtain ⟨i, hi, rfl, rfl, hne, hbl⟩ := hrel
    have HBL := Lib.hid (HB.out.trans (hbl.out.mono HB.out.size))
    by_cases hlt5 : i < 5
    · obtain ⟨k1, k2, k3⟩ := d5_at hlt5
      have kt : wr.cell? ⟨w.heap.size, i, none⟩ = some (.string (bs (d5.getD i []))) := keep_cell hbl.out ((HBX.out.cell i).trans k1)
      obtain ⟨x, hx⟩ : ∃ x, d5.getD i [] = x := ⟨_, rfl⟩
      rw [hx] at kt k2 k3
      have HK2 := Lib.hid k2
      have HK3 := Lib.hid k3
      have il : (i : Int) < 5 := by omega
      have il2 : decide ((i : Int) < 5) = true := decide_eq_true il
      have i0 : (0 : Int) ≤ (i : Int) := by omega
      have l1 := World.block_lt_of_cell? _ _ kt
      simp only at l1
      clear k1 k2 k3 hx
      go_wp2_with fail
      refine (rScope_c _ x).mono ?_
      rw [HK2.out]
      rintro e w3 ⟨rfl, hb3⟩
      have kt3 := keep_cell hb3 kt
      have l3 := World.block_lt_of_cell? _ _ kt3
      simp only at l3
      have HB3 := Lib.hid (hbl.out.trans (hb3.mono hbl.out.size))
      have HBL3 := Lib.hid (HBL.out.trans (hb3.mono HBL.out.size))
      clear hb3 kt l1
      by_cases hdi : d = i + 1
      · have q1 : (((i + 1 : Nat) : Int) == (d : Int)) = true := by simp; omega
        have HE : Hid (x = y) := by show _ = _; rw [← HY.out, hdi]; exact HK3.out.symm
        clear hdi
        go_wp2_with fail
        go_ret
        rw [HE.out]
        exact ⟨rfl, HBL3.out⟩
      · have q1 : (((i + 1 : Nat) : Int) == (d : Int)) = false := by simp; omega
        have HDI := Lib.hid hdi
        clear hdi
        go_wp2_with fail
        go_roundg (5 - (i + 1))
        case measure => omega
        case rel =>
          refine ⟨i + 1, by omega, rfl, by go_num, fun j hj => ?_, HB3.out⟩
          rcases Nat.lt_or_ge j i with h | h
          · exact hne.out j h
          · obtain rfl : j = i := by omega
            exact HDI.out
    · obtain rfl : i = 5 := by omega
      have HE : Hid (y = []) := by
        show _ = _
        rw [← HY.out]
        have h0 := hne.out 0 (by omega)
        have h1 := hne.out 1 (by omega)
        have h2 := hne.out 2 (by omega)
        have h3 := hne.out 3 (by omega)
        have h4 := hne.out 4 (by omega)
        unfold domW
        rw [if_neg h0, if_neg h1, if_neg h2, if_neg h3, if_neg h4]
      have il2 : decide ((5 : Int) < 5) = false := rfl
      go_wp2_with fail
      go_ret
      rw [HE.out]
      exact ⟨rfl, HBL.out⟩
end Go.Proofs.YtganlldidjbpiaaGreatDoor

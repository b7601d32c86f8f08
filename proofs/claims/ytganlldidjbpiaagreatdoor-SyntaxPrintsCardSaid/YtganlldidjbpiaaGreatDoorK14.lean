/- Walks of package lexis: the token at the front of a text.
   Walks of package lexis: whether a token is right; Print.
   Regions that draw their order, within a round of a range over a function: one walk serves all orders, as outside.
   Walks of package lexis: the iterator over the tokens, and Tokens. -/
import Derived.Test.YtganlldidjbpiaaGreatDoorK13
import Derived.Lib.AtoiErrMem
import Derived.Laws.StructEq
import Derived.Sort.QuietIn
import Derived.Test.YtganlldidjbpiaaGreatDoorProg
import Derived.Deep.DeepCutAuto
import Derived.TacticsIn
import Derived.BigFrameIn
import Derived.OwnWalkIn
import Derived.TacticsInMore
import Derived.LoopNIn
import Derived.LoopIn
set_option linter.unusedVariables false
namespace Go.Proofs.YtganlldidjbpiaaGreatDoor
open Go.RowKit

/-- A token as a value. -/
def aggT (t : Tok) : Value := .agg #[.int .u8 (t.kind : Int), .string (bs t.text), .int .i64 t.num, .int .i64 t.off]
/-- The result is a token and an error; nothing that was there has turned. -/
def RetT (w : World) (r : Tok × Nat) (e : Ending) (w' : World) : Prop := e = .returned (.tuple #[aggT r.1, .int .i64 ((r.2 : Nat) : Int)]) ∧ Below w.heap.size w w'
/-- Four stores into a block of four cells. -/
theorem end_tok {w : World} {b : Nat} {x0 x1 x2 x3 : Value} {t : TypeId} (h : Box w b #[x0, x1, x2, x3] t) (y0 y1 y2 y3 : Value) :
    Box ((((w.setCell ⟨b, 0, none⟩ y0).setCell ⟨b, 1, none⟩ y1).setCell ⟨b, 2, none⟩ y2).setCell ⟨b, 3, none⟩ y3) b #[y0, y1, y2, y3] t := by
  have := (((h.set 0 y0).set 1 y1).set 2 y2).set 3 y3
  simpa using this
theorem below_tok {w W : World} {b : Nat} (h : Below w.heap.size w W) (hb : w.heap.size ≤ b) (y0 y1 y2 y3 : Value) :
    Below w.heap.size w ((((W.setCell ⟨b, 0, none⟩ y0).setCell ⟨b, 1, none⟩ y1).setCell ⟨b, 2, none⟩ y2).setCell ⟨b, 3, none⟩ y3) :=
  (((h.setCell (p := ⟨b, 0, none⟩) hb _).setCell (p := ⟨b, 1, none⟩) hb _).setCell (p := ⟨b, 2, none⟩) hb _).setCell (p := ⟨b, 3, none⟩) hb _
theorem clone_c (s : ByteArray) (w : World) (hl : s.size ≤ 281474976710656) :
    Calls Tryz.prog 103 #[.string s] w fun e w' => e = .returned (.string s) ∧ Below w.heap.size w w' := by
  go_enter Tryz.func103, Tryz.ntmps103
  go_wp2_with (go_at_call 120; refine (Tryz.stringslite_Clone _ _ hl).mono ?_; rintro e w' ⟨rfl, hb⟩)
  go_ret
  exact ⟨rfl, hb⟩
theorem atoi_c (s : ByteArray) (N : Int) (hl : s.size ≤ 18) (h : Lib.atoi s.data.toList = some N) (w : World) :
    Calls Tryz.prog 105 #[.string s] w fun e w' => e = .returned (.tuple #[.int .i64 N, .nilIface]) ∧ Below w.heap.size w w' := by
  refine (Tryz.strconv_Atoi s N hl h w).mono ?_
  rintro e w' ⟨rfl, t, rfl⟩
  exact ⟨rfl, Lib.bytesWorld_below _ _ _⟩
section
variable (c : UInt8) (m : List UInt8)
theorem fst1_n (h1 : isLet c = true) (hn : ¬ 12 < runN isIns (c :: m)) : fst1 (c :: m) = (⟨1, (c :: m).take (runN isIns (c :: m)), 0, 0⟩, 0) := by rw [fst1, if_pos h1, if_neg hn]
theorem fst1_nl (h1 : isLet c = true) (hn : 12 < runN isIns (c :: m)) : fst1 (c :: m) = badT 3 := by rw [fst1, if_pos h1, if_pos hn]
theorem fst1_d0 (h1 : isLet c = false) (h2 : isDig c = true) (h3 : c.toNat = 48) (h4 : 1 < runN isDig (c :: m)) : fst1 (c :: m) = badT 4 := by rw [fst1, h1, if_neg (by simp), if_pos h2, if_pos ⟨h3, h4⟩]
theorem fst1_dl (h1 : isLet c = false) (h2 : isDig c = true) (h3 : ¬ (c.toNat = 48 ∧ 1 < runN isDig (c :: m))) (h4 : 9 < runN isDig (c :: m)) : fst1 (c :: m) = badT 3 := by rw [fst1, h1, if_neg (by simp), if_pos h2, if_neg h3, if_pos h4]
theorem fst1_d (h1 : isLet c = false) (h2 : isDig c = true) (h3 : ¬ (c.toNat = 48 ∧ 1 < runN isDig (c :: m))) (h4 : ¬ 9 < runN isDig (c :: m)) : fst1 (c :: m) = (⟨2, (c :: m).take (runN isDig (c :: m)), numV ((c :: m).take (runN isDig (c :: m))), 0⟩, 0) := by rw [fst1, h1, if_neg (by simp), if_pos h2, if_neg h3, if_neg h4]
theorem fst1_s (h1 : isLet c = false) (h2 : isDig c = false) (h3 : isSgn c = true) : fst1 (c :: m) = (⟨3, [c], 0, 0⟩, 0) := by rw [fst1, h1, if_neg (by simp), h2, if_neg (by simp), if_pos h3]
theorem fst1_x (h1 : isLet c = false) (h2 : isDig c = false) (h3 : isSgn c = false) : fst1 (c :: m) = badT 4 := by rw [fst1, h1, if_neg (by simp), h2, if_neg (by simp), h3, if_neg (by simp)]
end

set_option maxRecDepth 100000 in
set_option maxHeartbeats 1000000 in
theorem first_x (c : UInt8) (m : List UInt8) (w : World) (hl : (c :: m).length ≤ 9223372036854775807) (h1 : isLet c = false) (h2 : isDig c = false) (h3 : isSgn c = false) :
    Calls Tryz.prog 74 #[.string (bs (c :: m))] w (RetT w (badT 4)) := by
  have hs : (bs (c :: m)).size = m.length + 1 := bs_size _
  have hget : ∀ h, (bs (c :: m))[0]'h = c := fun _ => rfl
  go_enter Tryz.func74, Tryz.ntmps74
  go_wp2_with (first
    | (go_at_call 101; refine (letter_c c _).mono ?_; rintro e w' ⟨rfl, rfl⟩; rw [h1])
    | (go_at_call 104; refine (digit_c c _).mono ?_; rintro e w' ⟨rfl, rfl⟩; rw [h2])
    | (go_at_call 106; refine (sign_c c _).mono ?_; rintro e w' ⟨rfl, rfl⟩; rw [h3]))
  exact bodyPost_ret (v := .tuple #[aggT (badT 4).1, .int .i64 4]) (by simp [results, Tryz.results74, go_sem, aggT, badT]; rfl) rfl ⟨rfl, (Below.refl _ _).alloc (Nat.le_refl _) _⟩
set_option maxRecDepth 100000 in
set_option maxHeartbeats 1000000 in
theorem first_s (c : UInt8) (m : List UInt8) (w : World) (hl : (c :: m).length ≤ 9223372036854775807) (h1 : isLet c = false) (h2 : isDig c = false) (h3 : isSgn c = true) :
    Calls Tryz.prog 74 #[.string (bs (c :: m))] w (RetT w (⟨3, [c], 0, 0⟩, 0)) := by
  have hs : (bs (c :: m)).size = m.length + 1 := bs_size _
  have hget : ∀ h, (bs (c :: m))[0]'h = c := fun _ => rfl
  have hext : (bs (c :: m)).extract 0 1 = bs [c] := extract_front _ _
  go_enter Tryz.func74, Tryz.ntmps74
  go_wp2_with (first
    | (go_at_call 101; refine (letter_c c _).mono ?_; rintro e w' ⟨rfl, rfl⟩; rw [h1])
    | (go_at_call 104; refine (digit_c c _).mono ?_; rintro e w' ⟨rfl, rfl⟩; rw [h2])
    | (go_at_call 106; refine (sign_c c _).mono ?_; rintro e w' ⟨rfl, rfl⟩; rw [h3]))
  refine (clone_c (bs [c]) _ (by rw [bs_size]; simp)).mono ?_
  rintro e w1 ⟨rfl, hb⟩
  have bx := (Box.new w #[.int .u8 0, .string ⟨#[]⟩, .int .i64 0, .int .i64 0] 37).after hb
  obtain ⟨r0, r1, r2, r3⟩ := bx.cells4
  have f0 := bx.frozen 0
  have f1 := bx.frozen 1
  have f2 := bx.frozen 2
  have f3 := bx.frozen 3
  have HE := Lib.hid (end_tok bx (.int .u8 3) (.string (bs [c])) (.int .i64 0) (.int .i64 0))
  have HB := Lib.hid (below_tok ((held_alloc (Below.refl _ w)).trans (hb.mono (by simp))) (Nat.le_refl _) (.int .u8 3) (.string (bs [c])) (.int .i64 0) (.int .i64 0))
  clear hb bx
  go_wp2_with fail
  obtain ⟨e0, e1, e2, e3⟩ := HE.out.cells4
  exact bodyPost_ret (v := .tuple #[aggT ⟨3, [c], 0, 0⟩, .int .i64 0]) (by simp [results, Tryz.results74, go_sem, aggT, e0, e1, e2, e3]) rfl ⟨rfl, HB.out⟩
set_option maxRecDepth 100000 in
set_option maxHeartbeats 1000000 in
theorem first_n (c : UInt8) (m : List UInt8) (w : World) (hl : (c :: m).length ≤ 9223372036854775807) (h1 : isLet c = true) (x : List UInt8) (hx : (c :: m).take (runN isIns (c :: m)) = x) (hz : x.length ≤ 12) :
    Calls Tryz.prog 74 #[.string (bs (c :: m))] w (RetT w (⟨1, x, 0, 0⟩, 0)) := by
  have hs : (bs (c :: m)).size = m.length + 1 := bs_size _
  have hget : ∀ h, (bs (c :: m))[0]'h = c := fun _ => rfl
  have hsx : (bs x).size = x.length := bs_size x
  have HX := Lib.hid hx
  clear hx
  go_enter Tryz.func74, Tryz.ntmps74
  go_wp2_with (go_at_call 101; refine (letter_c c _).mono ?_; rintro e w' ⟨rfl, rfl⟩; rw [h1])
  refine (run_c (c :: m) _ _ class_inside _ hl).mono ?_
  rintro e w' ⟨rfl, rfl⟩
  rw [HX.out]
  go_wp2_with fail
  refine (clone_c (bs x) _ (by rw [hsx]; omega)).mono ?_
  rintro e w1 ⟨rfl, hb⟩
  have bx := (Box.new w #[.int .u8 0, .string ⟨#[]⟩, .int .i64 0, .int .i64 0] 37).after hb
  obtain ⟨r0, r1, r2, r3⟩ := bx.cells4
  have f0 := bx.frozen 0
  have f1 := bx.frozen 1
  have f2 := bx.frozen 2
  have f3 := bx.frozen 3
  have HE := Lib.hid (end_tok bx (.int .u8 1) (.string (bs x)) (.int .i64 0) (.int .i64 0))
  have HB := Lib.hid (below_tok ((held_alloc (Below.refl _ w)).trans (hb.mono (by simp))) (Nat.le_refl _) (.int .u8 1) (.string (bs x)) (.int .i64 0) (.int .i64 0))
  clear hb bx
  go_wp2_with fail
  obtain ⟨e0, e1, e2, e3⟩ := HE.out.cells4
  exact bodyPost_ret (v := .tuple #[aggT ⟨1, x, 0, 0⟩, .int .i64 0]) (by simp [results, Tryz.results74, go_sem, aggT, e0, e1, e2, e3]) rfl ⟨rfl, HB.out⟩
set_option maxRecDepth 100000 in
set_option maxHeartbeats 1000000 in
theorem first_nl (c : UInt8) (m : List UInt8) (w : World) (hl : (c :: m).length ≤ 9223372036854775807) (h1 : isLet c = true) (x : List UInt8) (hx : (c :: m).take (runN isIns (c :: m)) = x) (hz : 12 < x.length) (hxl : x.length ≤ 9223372036854775807) :
    Calls Tryz.prog 74 #[.string (bs (c :: m))] w (RetT w (badT 3)) := by
  have hs : (bs (c :: m)).size = m.length + 1 := bs_size _
  have hget : ∀ h, (bs (c :: m))[0]'h = c := fun _ => rfl
  have hsx : (bs x).size = x.length := bs_size x
  have HX := Lib.hid hx
  clear hx
  go_enter Tryz.func74, Tryz.ntmps74
  go_wp2_with (go_at_call 101; refine (letter_c c _).mono ?_; rintro e w' ⟨rfl, rfl⟩; rw [h1])
  refine (run_c (c :: m) _ _ class_inside _ hl).mono ?_
  rintro e w' ⟨rfl, rfl⟩
  rw [HX.out]
  go_wp2_with fail
  exact bodyPost_ret (v := .tuple #[aggT (badT 3).1, .int .i64 3]) (by simp [results, Tryz.results74, go_sem, aggT, badT]; rfl) rfl ⟨rfl, (Below.refl _ _).alloc (Nat.le_refl _) _⟩
set_option maxRecDepth 100000 in
set_option maxHeartbeats 1000000 in
theorem first_d0 (c : UInt8) (m : List UInt8) (w : World) (hl : (c :: m).length ≤ 9223372036854775807) (h1 : isLet c = false) (h2 : isDig c = true) (h3 : c.toNat = 48) (x : List UInt8) (hx : (c :: m).take (runN isDig (c :: m)) = x) (hz : 1 < x.length) (hxl : x.length ≤ 9223372036854775807) :
    Calls Tryz.prog 74 #[.string (bs (c :: m))] w (RetT w (badT 4)) := by
  have hs : (bs (c :: m)).size = m.length + 1 := bs_size _
  have hget : ∀ h, (bs (c :: m))[0]'h = c := fun _ => rfl
  have hsx : (bs x).size = x.length := bs_size x
  have h4 : ((c.toNat : Int) == 48) = true := by simp [h3]
  have HX := Lib.hid hx
  clear hx h3
  go_enter Tryz.func74, Tryz.ntmps74
  go_wp2_with (first
    | (go_at_call 101; refine (letter_c c _).mono ?_; rintro e w' ⟨rfl, rfl⟩; rw [h1])
    | (go_at_call 104; refine (digit_c c _).mono ?_; rintro e w' ⟨rfl, rfl⟩; rw [h2]))
  refine (run_c (c :: m) _ _ class_digit _ hl).mono ?_
  rintro e w' ⟨rfl, rfl⟩
  rw [HX.out]
  go_wp2_with fail
  exact bodyPost_ret (v := .tuple #[aggT (badT 4).1, .int .i64 4]) (by simp [results, Tryz.results74, go_sem, aggT, badT]; rfl) rfl ⟨rfl, (Below.refl _ _).alloc (Nat.le_refl _) _⟩
set_option maxRecDepth 100000 in
set_option maxHeartbeats 1000000 in
theorem first_dl (c : UInt8) (m : List UInt8) (w : World) (hl : (c :: m).length ≤ 9223372036854775807) (h1 : isLet c = false) (h2 : isDig c = true) (h3 : c.toNat ≠ 48) (x : List UInt8) (hx : (c :: m).take (runN isDig (c :: m)) = x) (hz : 9 < x.length) (hxl : x.length ≤ 9223372036854775807) :
    Calls Tryz.prog 74 #[.string (bs (c :: m))] w (RetT w (badT 3)) := by
  have hs : (bs (c :: m)).size = m.length + 1 := bs_size _
  have hget : ∀ h, (bs (c :: m))[0]'h = c := fun _ => rfl
  have hsx : (bs x).size = x.length := bs_size x
  have h4 : ((c.toNat : Int) == 48) = false := by simp; omega
  have HX := Lib.hid hx
  clear hx h3
  go_enter Tryz.func74, Tryz.ntmps74
  go_wp2_with (first
    | (go_at_call 101; refine (letter_c c _).mono ?_; rintro e w' ⟨rfl, rfl⟩; rw [h1])
    | (go_at_call 104; refine (digit_c c _).mono ?_; rintro e w' ⟨rfl, rfl⟩; rw [h2]))
  refine (run_c (c :: m) _ _ class_digit _ hl).mono ?_
  rintro e w' ⟨rfl, rfl⟩
  rw [HX.out]
  go_wp2_with fail
  exact bodyPost_ret (v := .tuple #[aggT (badT 3).1, .int .i64 3]) (by simp [results, Tryz.results74, go_sem, aggT, badT]; rfl) rfl ⟨rfl, (Below.refl _ _).alloc (Nat.le_refl _) _⟩
set_option maxRecDepth 100000 in
set_option maxHeartbeats 1000000 in
theorem first_d (c : UInt8) (m : List UInt8) (w : World) (hl : (c :: m).length ≤ 9223372036854775807) (h1 : isLet c = false) (h2 : isDig c = true) (x : List UInt8) (hx : (c :: m).take (runN isDig (c :: m)) = x) (h3 : ((c.toNat : Int) == 48) = false ∨ x.length ≤ 1) (hz : x.length ≤ 9) :
    Calls Tryz.prog 74 #[.string (bs (c :: m))] w (RetT w (⟨2, x, numV x, 0⟩, 0)) := by
  have hs : (bs (c :: m)).size = m.length + 1 := bs_size _
  have hget : ∀ h, (bs (c :: m))[0]'h = c := fun _ => rfl
  have hsx : (bs x).size = x.length := bs_size x
  have hat : Hid (Lib.atoi (bs x).data.toList = some ((numV x : Nat) : Int)) := by
    show Lib.atoi x = _
    refine atoi_dig (fun d hd => ?_) ?_
    · rw [← hx] at hd; exact runN_take _ _ d hd
    · rw [← hx, runN_pos _ _ _ h2]; simp
  have HX := Lib.hid hx
  obtain ⟨N, hN⟩ : ∃ N : Nat, numV x = N := ⟨_, rfl⟩
  rw [hN] at hat ⊢
  clear hx hN
  have h18 : (bs x).size ≤ 18 := by rw [hsx]; omega
  by_cases h5 : ((c.toNat : Int) == 48) = true
  · have h6 : x.length ≤ 1 := by
      rcases h3 with h4 | h4
      · rw [h5] at h4; cases h4
      · exact h4
    clear h3
    go_enter Tryz.func74, Tryz.ntmps74
    go_wp2_with (first
      | (go_at_call 101; refine (letter_c c _).mono ?_; rintro e w' ⟨rfl, rfl⟩; rw [h1])
      | (go_at_call 104; refine (digit_c c _).mono ?_; rintro e w' ⟨rfl, rfl⟩; rw [h2]))
    refine (run_c (c :: m) _ _ class_digit _ hl).mono ?_
    rintro e w' ⟨rfl, rfl⟩
    rw [HX.out]
    go_wp2_with fail
    refine (atoi_c (bs x) (N : Int) h18 hat.out _).mono ?_
    rintro e w1 ⟨rfl, hb1⟩
    go_wp2_with fail
    refine (clone_c (bs x) _ (by rw [hsx]; omega)).mono ?_
    rintro e w2 ⟨rfl, hb2⟩
    have hb := hb1.trans (hb2.mono hb1.size)
    have bx := (Box.new w #[.int .u8 0, .string ⟨#[]⟩, .int .i64 0, .int .i64 0] 37).after hb
    obtain ⟨r0, r1, r2, r3⟩ := bx.cells4
    have f0 := bx.frozen 0
    have f1 := bx.frozen 1
    have f2 := bx.frozen 2
    have f3 := bx.frozen 3
    have HE := Lib.hid (end_tok bx (.int .u8 2) (.string (bs x)) (.int .i64 (N : Int)) (.int .i64 0))
    have HB := Lib.hid (below_tok ((held_alloc (Below.refl _ w)).trans (hb.mono (by simp))) (Nat.le_refl _) (.int .u8 2) (.string (bs x)) (.int .i64 (N : Int)) (.int .i64 0))
    clear hb hb1 hb2 bx
    go_wp2_with fail
    obtain ⟨e0, e1, e2, e3⟩ := HE.out.cells4
    exact bodyPost_ret (v := .tuple #[aggT ⟨2, x, (N : Int), 0⟩, .int .i64 0]) (by simp [results, Tryz.results74, go_sem, aggT, e0, e1, e2, e3]) rfl ⟨rfl, HB.out⟩
  · have h6 : ((c.toNat : Int) == 48) = false := by simpa using h5
    clear h3 h5
    go_enter Tryz.func74, Tryz.ntmps74
    go_wp2_with (first
      | (go_at_call 101; refine (letter_c c _).mono ?_; rintro e w' ⟨rfl, rfl⟩; rw [h1])
      | (go_at_call 104; refine (digit_c c _).mono ?_; rintro e w' ⟨rfl, rfl⟩; rw [h2]))
    refine (run_c (c :: m) _ _ class_digit _ hl).mono ?_
    rintro e w' ⟨rfl, rfl⟩
    rw [HX.out]
    go_wp2_with fail
    refine (atoi_c (bs x) (N : Int) h18 hat.out _).mono ?_
    rintro e w1 ⟨rfl, hb1⟩
    go_wp2_with fail
    refine (clone_c (bs x) _ (by rw [hsx]; omega)).mono ?_
    rintro e w2 ⟨rfl, hb2⟩
    have hb := hb1.trans (hb2.mono hb1.size)
    have bx := (Box.new w #[.int .u8 0, .string ⟨#[]⟩, .int .i64 0, .int .i64 0] 37).after hb
    obtain ⟨r0, r1, r2, r3⟩ := bx.cells4
    have f0 := bx.frozen 0
    have f1 := bx.frozen 1
    have f2 := bx.frozen 2
    have f3 := bx.frozen 3
    have HE := Lib.hid (end_tok bx (.int .u8 2) (.string (bs x)) (.int .i64 (N : Int)) (.int .i64 0))
    have HB := Lib.hid (below_tok ((held_alloc (Below.refl _ w)).trans (hb.mono (by simp))) (Nat.le_refl _) (.int .u8 2) (.string (bs x)) (.int .i64 (N : Int)) (.int .i64 0))
    clear hb hb1 hb2 bx
    go_wp2_with fail
    obtain ⟨e0, e1, e2, e3⟩ := HE.out.cells4
    exact bodyPost_ret (v := .tuple #[aggT ⟨2, x, (N : Int), 0⟩, .int .i64 0]) (by simp [results, Tryz.results74, go_sem, aggT, e0, e1, e2, e3]) rfl ⟨rfl, HB.out⟩
end Go.Proofs.YtganlldidjbpiaaGreatDoor

namespace Go.Proofs.YtganlldidjbpiaaGreatDoor
open Go.RowKit

theorem first_c (c : UInt8) (m : List UInt8) (w : World) (hl : (c :: m).length ≤ 9223372036854775807) :
    Calls Tryz.prog 74 #[.string (bs (c :: m))] w (RetT w (fst1 (c :: m))) := by
  have hl' : (c :: m).length ≤ 9223372036854775807 := by omega
  have li := runN_le isIns (c :: m)
  have ld := runN_le isDig (c :: m)
  have ti : ((c :: m).take (runN isIns (c :: m))).length = runN isIns (c :: m) := by rw [List.length_take]; omega
  have td : ((c :: m).take (runN isDig (c :: m))).length = runN isDig (c :: m) := by rw [List.length_take]; omega
  cases h1 : isLet c
  · cases h2 : isDig c
    · cases h3 : isSgn c
      · rw [fst1_x c m h1 h2 h3]; exact first_x c m w hl' h1 h2 h3
      · rw [fst1_s c m h1 h2 h3]; exact first_s c m w hl' h1 h2 h3
    · by_cases h3 : c.toNat = 48 ∧ 1 < runN isDig (c :: m)
      · rw [fst1_d0 c m h1 h2 h3.1 h3.2]; exact first_d0 c m w hl' h1 h2 h3.1 _ rfl (by rw [td]; exact h3.2) (by rw [td]; omega)
      · by_cases h4 : 9 < runN isDig (c :: m)
        · rw [fst1_dl c m h1 h2 h3 h4]
          exact first_dl c m w hl' h1 h2 (fun e => h3 ⟨e, by omega⟩) _ rfl (by rw [td]; exact h4) (by rw [td]; omega)
        · rw [fst1_d c m h1 h2 h3 h4]
          refine first_d c m w hl' h1 h2 _ rfl ?_ (by rw [td]; omega)
          by_cases h5 : c.toNat = 48
          · right; rw [td]; omega
          · left; simp; omega
  · by_cases h2 : 12 < runN isIns (c :: m)
    · rw [fst1_nl c m h1 h2]; exact first_nl c m w hl' h1 _ rfl (by rw [ti]; exact h2) (by rw [ti]; omega)
    · rw [fst1_n c m h1 h2]; exact first_n c m w hl' h1 _ rfl (by rw [ti]; omega)

theorem list_ba (x : List UInt8) : (bs x).toList = x := by rw [ByteArray.toList_eq]; rfl
/-- Equality of tokens, as the program asks it. -/
@[go_sem high] theorem run_eql_tok (w : World) (k k' : Nat) (x x' : List UInt8) (n n' o o' : Int) :
    (binOp .eql 37 (.agg #[.int .u8 (k : Int), .string (bs x), .int .i64 n, .int .i64 o]) (.agg #[.int .u8 (k' : Int), .string (bs x'), .int .i64 n', .int .i64 o'])).run Tryz.prog w = .ok (.bool (decide (k = k' ∧ x = x' ∧ n = n' ∧ o = o'))) w := by
  have e1 : ((k : Int) = (k' : Int)) = (k = k') := by rw [Int.ofNat_inj]
  rw [run_eql_struct, run_equalIn_agg _ _ _ _ _ (by kernel_rfl) (by kernel_rfl)]
  simp only [Program.fieldsOf, Tryz.underlying37]
  by_cases h1 : k = k' <;> by_cases h2 : x = x' <;> by_cases h3 : n = n' <;> by_cases h4 : o = o' <;> simp [go_sem, Op.eqFields, list_ba, e1, h1, h2, h3, h4]
/-- The walk's question whether a token is right. -/
theorem right_dec (t : Tok) (h0 : t.text ≠ []) : decide (rightT t) = (decide ((fst1 t.text).2 = 0) && decide ((fst1 t.text).1.kind = t.kind ∧ (fst1 t.text).1.text = t.text ∧ (fst1 t.text).1.num = t.num ∧ t.off = t.off)) := by
  rw [Bool.eq_iff_iff]
  simp [rightT, h0]

set_option maxRecDepth 100000 in
set_option maxHeartbeats 1000000 in
theorem right_c (t : Tok) (w : World) (ht : TokOk t) (hl : t.text.length ≤ 9223372036854775807) :
    Calls Tryz.prog 115 #[aggT t] w fun e w' => e = .returned (.bool (decide (rightT t))) ∧ Below w.heap.size w w' := by
  obtain ⟨k, x, n, o⟩ := t
  cases x with
  | nil =>
    have hr : decide (rightT ⟨k, [], n, o⟩) = false := decide_eq_false (fun h => h.1 rfl)
    rw [hr]
    simp only [aggT, show bs [] = (⟨#[]⟩ : ByteArray) from rfl]
    go_enter Tryz.func115, Tryz.ntmps115
    go_wp2_with fail
    go_ret
    exact ⟨rfl, held_alloc (Below.refl _ _)⟩
  | cons c m =>
    rw [right_dec _ (by simp)]
    simp only [aggT]
    obtain ⟨⟨⟨k', x', n', f⟩, e⟩, hf⟩ : ∃ p, fst1 (c :: m) = p := ⟨_, rfl⟩
    simp only [hf]
    have hemp : (bs (c :: m)).toList.isEmpty = false := by rw [list_ba]; rfl
    have HF := Lib.hid hf
    clear hf
    go_enter Tryz.func115, Tryz.ntmps115
    go_wp2_with fail
    refine (first_c c m _ hl).mono ?_
    rintro e' w3 ⟨rfl, hb3⟩
    rw [HF.out]
    simp only [aggT]
    have b1 := (Box.new w #[.int .u8 (k : Int), .string (bs (c :: m)), .int .i64 n, .int .i64 o] 37).after hb3
    obtain ⟨r0, r1, r2, r3⟩ := b1.cells4
    have hlt := b1.lt
    have HB : Hid (Below w.heap.size w w3) := (held_alloc (Below.refl _ w)).trans (hb3.mono (by simp))
    clear hb3 b1
    by_cases he : e = 0
    · subst he
      go_wp2_with fail
      go_ret
      refine ⟨ret_bool ?_, ?_⟩
      · simp
      · exact held_alloc HB.out (by have := HB.out.size; omega)
    · have he' : ((e : Int) == 0) = false := by simp; omega
      go_wp2_with fail
      go_ret
      refine ⟨ret_bool ?_, ?_⟩
      · simp [he]
      · exact held_alloc HB.out (by have := HB.out.size; omega)
end Go.Proofs.YtganlldidjbpiaaGreatDoor

namespace Go.Proofs.YtganlldidjbpiaaGreatDoor

theorem wide_fn (f : FuncId) : Fence.wide.fn f = True := eq_true trivial
/-- No operation is put off. -/
def noDefer (ops : List Oper) : Bool := ops.all fun o => match o.op with
  | .defer _ => false
  | _ => true
theorem noDefer_spec {ops : List Oper} (h : noDefer ops = true) {o : Oper} (ho : o ∈ ops) : ∀ c, o.op ≠ .defer c := by
  intro c e
  have := List.all_eq_true.1 h o ho
  rw [e] at this
  cases this
section
variable {F : Fence} {n : Nat} {P : Program} {ops : Array Oper} {md : Region.Mode} {C : World → Prop}
theorem quiet_op {o : Oper} {a : Act} {K : Act → Prop} {K' : Act → World → Prop} {Q' : Exit → Act → World → Prop} {w : World} (hd : ∀ c, o.op ≠ .defer c) (hw : C w) (h : ∀ a w', C w' → K a → K' a w')
    (ha : o.askedIn F P a C) (hh : o.quietIn F n P a C K) : o.wpIn F n P a w K' Q' := by
  obtain ⟨v, h1, h2⟩ := hh
  have h3 := h1 w hw
  unfold Oper.quietAtIn at h3
  unfold Oper.wpIn
  refine ⟨ha w hw, ?_⟩
  rw [Oper.semAt_eq _ _ _ hd]
  generalize (execOp a.eval o).run P w = r at *
  cases r with
  | ok x w' =>
    cases x <;> simp only [Oper.quietUponIn] at h3 <;> simp only [Oper.uponIn]
    case value u =>
      obtain ⟨e1, e2⟩ := h3
      rw [e1, e2]
      exact h _ _ hw h2
    case skip =>
      obtain ⟨e1, e2⟩ := h3
      rw [e1, ← e2]
      exact h _ _ hw h2
    case enter f args =>
      obtain ⟨e1, hd, hc⟩ := h3
      rw [e1]
      exact ⟨hd, hc.mono fun e w'' ⟨he, hw''⟩ => by subst he; exact h _ _ hw'' h2⟩
  | halt x w' => simp only [Oper.quietUponIn] at h3
theorem quiet_i {i : Nat} {a : Act} {K : Act → Prop} {K' : Act → World → Prop} {Q' : Exit → Act → World → Prop} {w : World} (hd : noDefer ops.toList = true) (hC : C w) (h : ∀ a w', C w' → K a → K' a w')
    (hh : qOpIn F n P ops C i K a) : wpOpIn F n P ops Q' i K' a w := by
  unfold qOpIn at hh
  unfold wpOpIn
  split
  · rename_i ho; simp only [ho] at hh; exact h _ _ hC hh
  · rename_i o ho
    simp only [ho] at hh
    obtain ⟨ha, hh⟩ := hh
    have hmem : o ∈ ops.toList := by
      rw [← Array.getElem?_toList] at ho
      exact List.mem_of_getElem? ho
    split
    · rename_i hw; simp only [hw, if_true] at hh; exact quiet_op (noDefer_spec hd hmem) hC h ha hh
    · rename_i hw; simp only [hw] at hh; exact ⟨ha w hC, h _ _ hC hh⟩
theorem quiet_any {Q : Act → Prop} {Q' : Exit → Act → World → Prop} (hd : noDefer ops.toList = true) (hQ : ∀ a w, C w → Q a → Q' .normal a w) : ∀ (fuel : Nat) (listed : Array Bool) (a : Act) (w : World), C w →
    wpAnyQIn F n P md ops C Q fuel listed a → wpAnyIn F n P md ops Q' fuel listed a w
  | 0, _, _, _, hw, h => ⟨h.1, hQ _ _ hw h.2⟩
  | fuel + 1, _, _, _, hw, h => ⟨fun h0 => hQ _ _ hw (h.1 h0), fun i hi => quiet_i hd hw (fun a' w' hw' => quiet_any hd hQ fuel _ a' w' hw') (h.2 i hi)⟩
theorem wpIn_quiet_round {id : Nat} {Q : Exit → Act → World → Prop} {a : Act} {w : World} {l : List Oper} (hd : noDefer l = true) (hm : P.follows .mixedOrders = true) (hB : Region.lexB .any l.toArray = true)
    (h : wpQuietIn F n P l.toArray (fun w' => ∃ n, w' = w.drewN n) (fun a' => ∀ w', (∃ n, w' = w.drewN n) → Q .normal a' w') l a) : (Code.region id l.toArray true).wpIn F n P Q a w := by
  simp only [Region.lexB, Bool.and_eq_true] at hB
  refine wpIn_region_any hm (quiet_any (C := fun w' => ∃ n, w' = w.drewN n) (Q := fun a' => ∀ w', (∃ n, w' = w.drewN n) → Q .normal a' w') (by simpa using hd) (fun _ w' hw' h => h w' hw') _ _ _ _ ⟨1, rfl⟩ ?_)
  have := wpAnyQIn_lex (F := F) (n := n) (C := fun w' => ∃ n, w' = w.drewN n) (md := .any) hB.1 l 0 (Array.replicate l.toArray.size false) a (by simp) (by simpa using hB.2) (by simpa using h)
  simpa using this
end
end Go.Proofs.YtganlldidjbpiaaGreatDoor

namespace Go.Proofs.YtganlldidjbpiaaGreatDoor
open Go.RowKit Go.Shelf
attribute [local go_sem] Oper.semAt_some wide_fn

theorem all_t (s : ByteArray) (w : World) : Calls Tryz.prog 36 #[.string s] w fun e w' => e = .returned (.func (.func 72) #[] #[.pointer (some ⟨w.heap.size, 0, none⟩)]) ∧ w' = w.alloc (.cells #[.string s] 9) := by
  go_enter Tryz.func36, Tryz.ntmps36
  go_wp2
  go_ret
  exact ⟨rfl, rfl⟩
/-- What is yielded in round r. -/
def YldV (its : List (Tok × Nat)) (r : Nat) (args : Array Value) (_ : World) : Prop := ∃ (t : Tok) (e : Nat), its[r]? = some (t, e) ∧ args = #[aggT t, .int .i64 ((e : Nat) : Int)]
/-- The text that is left in round r of the iterator, at offset o. -/
def LeftAt (l : List UInt8) (r o : Nat) : Prop := o ≤ l.length ∧ Here (l.drop o) ∧ (items 0 l).drop r = items o (l.drop o) ∧ ∀ i x, i < r → (items 0 l)[i]? = some x → x.2 = 0
theorem left_start (l : List UInt8) : LeftAt l 0 (idleN l) := by
  refine ⟨idleN_le l, here_drop l, ?_, fun i x h => by omega⟩
  rw [List.drop_zero, items_skip 0 l, Nat.zero_add]
theorem left_end {l : List UInt8} {r : Nat} (h : LeftAt l r l.length) : (items 0 l).length ≤ r := by
  have h3 := h.2.2.1
  rw [List.drop_length, here_nil] at h3
  exact List.drop_eq_nil_iff.1 h3
theorem left_step {l : List UInt8} {r o : Nat} {c : UInt8} {m : List UInt8} (h : LeftAt l r o) (hc : l.drop o = c :: m) :
    (items 0 l)[r]? = some ((fst1 (c :: m)).1.at_ (o : Int), (fst1 (c :: m)).2) ∧
    ((fst1 (c :: m)).2 = 0 → LeftAt l (r + 1) (o + (fst1 (c :: m)).1.text.length + idleN (l.drop (o + (fst1 (c :: m)).1.text.length)))) := by
  obtain ⟨h1, h2, h3, h4⟩ := h
  rw [hc] at h2 h3
  have hget : ∀ x y, items o (c :: m) = x :: y → (items 0 l)[r]? = some x := by
    intro x y e
    rw [← h3] at e
    have : (items 0 l)[r]? = ((items 0 l).drop r)[0]? := by rw [List.getElem?_drop]; rfl
    rw [this, e]; rfl
  by_cases he : (fst1 (c :: m)).2 = 0
  · have e := here_cons (o := o) h2 he
    have hg := hget _ _ e
    rw [he]
    refine ⟨hg, fun _ => ?_⟩
    obtain ⟨a1, a2, _⟩ := fst1_text he
    have hlen : (c :: m).length = l.length - o := by rw [← hc, List.length_drop]
    have hd : (c :: m).drop (fst1 (c :: m)).1.text.length = l.drop (o + (fst1 (c :: m)).1.text.length) := by rw [← hc, List.drop_drop]
    have hle := idleN_le (l.drop (o + (fst1 (c :: m)).1.text.length))
    rw [List.length_drop] at hle
    refine ⟨by omega, ?_, ?_, ?_⟩
    · have := here_drop (l.drop (o + (fst1 (c :: m)).1.text.length))
      rwa [List.drop_drop] at this
    · have e2 : (items 0 l).drop (r + 1) = ((items 0 l).drop r).drop 1 := by rw [List.drop_drop]
      rw [e2, h3, e, List.drop_one, List.tail_cons, hd, items_skip, List.drop_drop]
    · intro i x hi hx
      rcases Nat.lt_or_ge i r with h5 | h5
      · exact h4 i x h5 hx
      · obtain rfl : i = r := by omega
        rw [hg] at hx
        injection hx with hx
        rw [← hx]
  · exact ⟨hget _ _ (here_bad h2 he), fun h => absurd h he⟩
/-- Block b is neither variable O nor the row that it names. -/
def NotOut (O : Nat) (W : World) (b : Nat) : Prop := b ≠ O ∧ ∀ p n c, W.cell? ⟨O, 0, none⟩ = some (.slice (some p) n c) → p.block ≠ b

set_option maxRecDepth 100000 in
set_option maxHeartbeats 4000000 in
theorem all1_t (l q : Nat) (W1 : World) (B : Nat) (s : List UInt8) (hs : s.length ≤ 4096) (its : List (Tok × Nat)) (hits : items 0 s = its) (Fr : World → Nat → Prop) (J Y : Nat → World → Prop) (hJ : ∀ r W, J r W → Box W B #[.string (bs s)] 9) (hF : ∀ r W W', J r W → Below W.heap.size W W' → Fr W' W.heap.size)
    (hJb : ∀ r W W', J r W → Below W.heap.size W W' → J r W') (hJ0 : J 0 W1)
    (hY : ∀ (r : Nat) (args : Array Value) (W : World), r < its.length → J r W → YldV its r args W → YieldAt Fence.wide q Tryz.prog l args W fun e W' => (e = .returned (.bool true) ∧ J (r + 1) W' ∧ KeepF Fr W W') ∨ (e = .returned (.bool false) ∧ Y r W')) :
    Calls Tryz.prog 72 #[.func (.yield l) #[] #[], .pointer (some ⟨B, 0, none⟩)] W1 fun e W' => (∃ v, e = .returned v) ∧ (J its.length W' ∨ ∃ r, r < its.length ∧ Y r W') := by
  have HJ := Lib.hid hJ
  have HF := Lib.hid hF
  have HJb := Lib.hid hJb
  have HJ0 := Lib.hid hJ0
  have HY := Lib.hid hY
  have b0 : W1.cell? ⟨B, 0, none⟩ = some (.string (bs s)) := (hJ 0 W1 hJ0).cell 0
  have hsz : (bs s).size = s.length := bs_size s
  obtain ⟨N, hN⟩ : ∃ N, its.length = N := ⟨_, rfl⟩
  rw [hN] at HY ⊢
  have HN := Lib.hid hN
  have HITS := Lib.hid hits
  clear hits
  have hi0 := idleN_le s
  have HL0 := Lib.hid (left_start s)
  obtain ⟨i0, hi0e⟩ : ∃ i, idleN s = i := ⟨_, rfl⟩
  rw [hi0e] at HL0 hi0
  have HI := Lib.hid hi0e
  clear hJ hF hJb hJ0 hY hN hi0e
  go_enter Tryz.func72, Tryz.ntmps72
  go_wp2_with fail
  refine (idle_c s _ (by omega)).mono ?_
  rintro e w' ⟨rfl, rfl⟩
  rw [HI.out]
  go_wp2_with fail
  clear b0
  go_loopg [3] (s.length + 1 - i0) (fun g t wx => ∃ r o : Nat, r ≤ N ∧ o ≤ s.length ∧ g = s.length + 1 - o ∧ t = .int .i64 (o : Int) ∧ Hid (LeftAt s r o) ∧ Hid (J r wx))
  case atStart => exact ⟨0, i0, Nat.zero_le _, hi0, rfl, rfl, HL0.out, HJ0.out⟩
  case round =>
    obtain ⟨r, o, hrle, ho, rfl, rfl, hleft, hj⟩ := hrel
    clear HL0 HJ0
    have b0 : wr.cell? ⟨B, 0, none⟩ = some (.string (bs s)) := (HJ.out r wr hj.out).cell 0
    by_cases hlt : o < s.length
    · obtain ⟨c, m, hc⟩ : ∃ c m, s.drop o = c :: m := ⟨_, _, List.drop_eq_getElem_cons hlt⟩
      obtain ⟨hit, hnext⟩ := left_step hleft.out hc
      rw [HITS.out] at hit
      have hrN : r < N := by rw [← HN.out]; exact (List.getElem?_eq_some_iff.1 hit).1
      have hoff := fst1_off (c :: m)
      have htx := fst1_text (l := c :: m)
      have hbad := fst1_bad (l := c :: m)
      have hcl : (c :: m).length = s.length - o := by rw [← hc, List.length_drop]
      obtain ⟨⟨⟨k, x, n, f⟩, e⟩, hf⟩ : ∃ p, fst1 (c :: m) = p := ⟨_, rfl⟩
      rw [hf] at hit hnext hoff htx hbad
      simp only at hnext hoff htx hbad
      subst hoff
      have hxl : x.length ≤ s.length - o := by
        by_cases he : e = 0
        · have := (htx he).2.1; omega
        · have := hbad he; simp only [Tok.mk.injEq] at this; rw [this.2.1]; simp
      have hx0 : e = 0 → 0 < x.length := fun he => (htx he).1
      have hext : (bs s).extract o s.length = bs (c :: m) := by
        have := extract_back s o
        rw [bs_size, hc] at this; exact this
      have HF1 := Lib.hid hf
      have HIT : Hid (∀ W, YldV its r #[aggT ⟨k, x, n, (o : Int)⟩, .int .i64 ((e : Nat) : Int)] W) := fun W => ⟨_, _, hit, rfl⟩
      have HYR : Hid (∀ (args : Array Value) (W : World), J r W → YldV its r args W → YieldAt Fence.wide q Tryz.prog l args W fun e W' => (e = .returned (.bool true) ∧ J (r + 1) W' ∧ KeepF Fr W W') ∨ (e = .returned (.bool false) ∧ Y r W')) := fun args W h1 h2 => HY.out r args W hrN h1 h2
      have HNX := Lib.hid hnext
      have HX0 := Lib.hid hx0
      have HEND : Hid (e ≠ 0 → r + 1 = N) := by
        intro he
        have hc2 := hc
        have h3 := hleft.out.2.2.1
        rw [HITS.out] at h3
        have h2 := hleft.out.2.1
        rw [hc] at h2 h3
        rw [here_bad h2 (by rw [hf]; exact he)] at h3
        have h4 := congrArg List.length h3
        rw [List.length_drop] at h4
        simp at h4
        rw [← HN.out]; omega
      have hsx : (bs x).size = x.length := bs_size x
      have h12 : (c :: m).length ≤ 9223372036854775807 := by omega
      clear hit hnext hf htx hbad hx0 hc
      go_wp2_with fail
      refine (first_c c m _ h12).mono ?_
      rintro e' w3 ⟨rfl, hb3⟩
      rw [HF1.out]
      simp only [aggT]
      have HJ3 := Lib.hid (HJb.out _ _ _ hj.out hb3)
      clear hb3 b0
      by_cases he : e = 0
      · subst he
        have hx0 : 0 < x.length := HX0.out rfl
        have hnext := HNX.out rfl
        obtain ⟨o2, ho2⟩ : ∃ o2, o + x.length + idleN (s.drop (o + x.length)) = o2 := ⟨_, rfl⟩
        obtain ⟨i2, hi2⟩ : ∃ i2, idleN (s.drop (o + x.length)) = i2 := ⟨_, rfl⟩
        rw [ho2] at hnext
        rw [hi2] at ho2
        have ho2l := hnext.1
        have HNXT := Lib.hid hnext
        have HI2 := Lib.hid hi2
        clear hnext hi2 HNX HX0 HEND
        go_upto_region 5 with fail
        obtain ⟨w4, hw4⟩ : ∃ w4, w4 = w3.alloc (.cells #[.int .u8 (k : Int), .string (bs x), .int .i64 n, .int .i64 (o : Int)] 37) := ⟨_, rfl⟩
        have hb4 : Below w3.heap.size w3 w4 := hw4 ▸ held_alloc (Below.refl _ w3)
        have bx : Box w4 w3.heap.size #[.int .u8 (k : Int), .string (bs x), .int .i64 n, .int .i64 (o : Int)] 37 := hw4 ▸ Box.new w3 _ _
        have hfr : Hid (Fr w4 w3.heap.size) := HF.out r w3 w4 HJ3.out hb4
        have HJ4 := Lib.hid (HJb.out _ _ _ HJ3.out hb4)
        obtain ⟨c0, c1, c2, c3⟩ := bx.cells4
        have BX := Lib.hid bx
        rw [← hw4]
        obtain ⟨fn, tmps, asg, bdy, hy, hR⟩ := HYR.out #[.agg #[.int .u8 (k : Int), .string (bs x), .int .i64 n, .int .i64 (o : Int)], .int .i64 0] w4 HJ4.out (HIT.out w4)
        clear hw4 hb4 bx HJ3
        refine (wpIn_wide (n := q + 1)).1 ?_
        gi_wp2
        refine hR.mono ?_
        rintro e W' (⟨rfl, hc, hkf⟩ | ⟨rfl, hyy⟩)
        · have HC := Lib.hid hc
          have bx' := hkf _ _ _ BX.out hfr.out
          obtain ⟨c0, c1, c2, c3⟩ := bx'.cells4
          have b0 : W'.cell? ⟨B, 0, none⟩ = some (.string (bs s)) := (HJ.out _ W' hc).cell 0
          have hlt5 := bx'.lt
          clear hR hy hc hkf bx'
          gi_wp2
          have hext2 : (bs s).extract (o + x.length) s.length = bs (s.drop (o + x.length)) := by
            have := extract_back s (o + x.length)
            rwa [bs_size] at this
          go_wp2_with fail
          refine (idle_c (s.drop (o + x.length)) _ (by rw [List.length_drop]; omega)).mono ?_
          rintro e w' ⟨rfl, rfl⟩
          rw [HI2.out]
          go_wp2_with fail
          go_roundg (s.length + 1 - o2)
          case measure => omega
          case rel => exact ⟨r + 1, o2, hrN, ho2l, rfl, by rw [← ho2]; go_num, HNXT.out, HC.out⟩
        · have HYY := Lib.hid hyy
          clear hyy hR hy
          gi_wp2
          go_wp2_with fail
          refine bodyPost_ret (results_none rfl _ _ _) rfl ?_
          exact ⟨⟨_, rfl⟩, .inr ⟨r, hrN, HYY.out⟩⟩
      · have he' : ((e : Int) != 0) = true := by simp; omega
        have HE := Lib.hid (HEND.out he)
        clear he HNX HX0 HEND
        go_upto_region 5 with fail
        obtain ⟨w4, hw4⟩ : ∃ w4, w4 = w3.alloc (.cells #[.int .u8 (k : Int), .string (bs x), .int .i64 n, .int .i64 (o : Int)] 37) := ⟨_, rfl⟩
        have hb4 : Below w3.heap.size w3 w4 := hw4 ▸ held_alloc (Below.refl _ w3)
        have bx : Box w4 w3.heap.size #[.int .u8 (k : Int), .string (bs x), .int .i64 n, .int .i64 (o : Int)] 37 := hw4 ▸ Box.new w3 _ _
        have HJ4 := Lib.hid (HJb.out _ _ _ HJ3.out hb4)
        obtain ⟨c0, c1, c2, c3⟩ := bx.cells4
        rw [← hw4]
        obtain ⟨fn, tmps, asg, bdy, hy, hR⟩ := HYR.out #[.agg #[.int .u8 (k : Int), .string (bs x), .int .i64 n, .int .i64 (o : Int)], .int .i64 (e : Int)] w4 HJ4.out (HIT.out w4)
        clear hw4 hb4 bx HJ3
        refine (wpIn_wide (n := q + 1)).1 ?_
        gi_wp2
        refine hR.mono ?_
        rintro e2 W' (⟨rfl, hc, hkf⟩ | ⟨rfl, hyy⟩)
        · have HC := Lib.hid hc
          clear hR hy hc hkf
          gi_wp2
          go_wp2_with fail
          refine bodyPost_ret (results_none rfl _ _ _) rfl ?_
          exact ⟨⟨_, rfl⟩, .inl (by rw [← HE.out]; exact HC.out)⟩
        · have HYY := Lib.hid hyy
          clear hyy hR hy
          gi_wp2
          go_wp2_with fail
          refine bodyPost_ret (results_none rfl _ _ _) rfl ?_
          exact ⟨⟨_, rfl⟩, .inr ⟨r, hrN, HYY.out⟩⟩
    · obtain rfl : o = s.length := by omega
      have hend := left_end hleft.out
      rw [HITS.out, HN.out] at hend
      obtain rfl : r = N := by omega
      go_wp2_with fail
      go_end0
      exact ⟨⟨_, rfl⟩, .inl hj.out⟩
end Go.Proofs.YtganlldidjbpiaaGreatDoor

/- Syntax, plain: the words that are printed are not empty and short; of what is read they are as many as its tokens. No program in it.
   Walks of package syntax: Print, of any tree whose words are not too many.
   Lexis, plain: two texts with a line feed between them. No program in it.
   The statements about layer 2: awake; what Parse's errors are. -/
import Derived.Test.YtganlldidjbpiaaGreatDoorK05
import Derived.Test.YtganlldidjbpiaaGreatDoorK22
import Derived.Test.YtganlldidjbpiaaGreatDoorK16
set_option linter.unusedVariables false
namespace Go.Proofs.YtganlldidjbpiaaGreatDoor
open Go

def okW (x : List UInt8) : Prop := x ≠ [] ∧ x.length ≤ 100000
theorem okName_len {n : List UInt8} (h : okName n) : okW n := by
  obtain ⟨⟨h1, h2, h3, h4, _⟩, _⟩ := h
  refine ⟨h1, ?_⟩
  have h2 : (fst1 n).2 = 0 := h2
  have h3 : (fst1 n).1.kind = 1 := h3
  have h4 : (fst1 n).1.text = n := h4
  rcases n with _ | ⟨c, m⟩
  · exact absurd rfl h1
  rw [fst1] at h2 h3 h4
  by_cases hc : isLet c = true
  · rw [if_pos hc] at h2 h3 h4
    by_cases hr : 12 < runN isIns (c :: m)
    · rw [if_pos hr] at h2; cases h2
    · rw [if_neg hr] at h4
      have := congrArg List.length h4
      rw [List.length_take] at this
      omega
  · rw [if_neg hc] at h2 h3 h4
    by_cases hd : isDig c = true
    · rw [if_pos hd] at h2 h3
      by_cases h5 : c.toNat = 48 ∧ 1 < runN isDig (c :: m)
      · rw [if_pos h5] at h2; cases h2
      · rw [if_neg h5] at h2 h3
        by_cases h6 : 9 < runN isDig (c :: m)
        · rw [if_pos h6] at h2; cases h2
        · rw [if_neg h6] at h3; cases h3
    · rw [if_neg hd] at h2 h3
      by_cases hs : isSgn c = true
      · rw [if_pos hs] at h3; cases h3
      · rw [if_neg hs] at h2; cases h2
theorem numW_ok {z : Int} (h : okNum z) : okW (numW z) := by
  have hlt : z.toNat < 10 ^ 9 := by have := h.1; have := h.2; omega
  exact ⟨dd_ne _, by have := dd_len 9 z.toNat (by omega) hlt; unfold numW; omega⟩
theorem domW_ok {d : Nat} (h : okDom d) : okW (domW d) := by
  have hd' : d = 1 ∨ d = 2 ∨ d = 3 ∨ d = 4 ∨ d = 5 := by have := h.1; have := h.2; omega
  unfold okW
  rcases hd' with rfl | rfl | rfl | rfl | rfl <;> decide
theorem commas_ok : ∀ {l : List (List UInt8)}, (∀ n ∈ l, okName n) → ∀ x ∈ commas l, okW x
  | [], _, x, hx => by cases hx
  | n :: l, h, x, hx => by
    rw [commas] at hx
    rcases List.mem_cons.1 hx with rfl | hx
    · unfold okW; decide
    rcases List.mem_cons.1 hx with rfl | hx
    · exact okName_len (h _ (by simp))
    · exact commas_ok (fun n hn => h n (by simp [hn])) x hx
theorem headD_ok {l : List (List UInt8)} (hl : l ≠ []) (h : ∀ n ∈ l, okName n) : okW (l.headD []) := by
  cases l with
  | nil => exact absurd rfl hl
  | cons n l => exact okName_len (h n (by simp))
theorem kindW_ok {k : Nat} (h : 1 ≤ k ∧ k ≤ 12) : okW (kindW k) := by
  have hk : k = 1 ∨ k = 2 ∨ k = 3 ∨ k = 4 ∨ k = 5 ∨ k = 6 ∨ k = 7 ∨ k = 8 ∨ k = 9 ∨ k = 10 ∨ k = 11 ∨ k = 12 := by omega
  unfold okW
  rcases hk with rfl | rfl | rfl | rfl | rfl | rfl | rfl | rfl | rfl | rfl | rfl | rfl <;> decide
theorem textsI_ok {c : Cl} (h : formI c) : ∀ x ∈ textsI c, okW x := by
  obtain ⟨hk, _, _, ha, hd, hn, hnn, _⟩ := h
  intro x hx
  unfold textsI at hx
  by_cases h9 : c.kind = 9
  · rw [if_pos h9] at hx hd
    rw [if_neg (by omega)] at ha
    simp only [List.mem_cons, List.not_mem_nil, or_false] at hx
    rcases hx with rfl | rfl | rfl | rfl | rfl
    · unfold okW; decide
    · exact numW_ok ha
    · unfold okW; decide
    · exact domW_ok hd
    · unfold okW; decide
  rw [if_neg h9] at hx
  by_cases h10 : c.kind = 10
  · rw [if_pos h10] at hx hn
    simp only [List.mem_cons, List.mem_append, List.not_mem_nil, or_false] at hx
    rcases hx with rfl | rfl | hx | rfl
    · unfold okW; decide
    · exact headD_ok hn hnn
    · exact commas_ok (fun n hn => hnn n (List.mem_of_mem_tail hn)) x hx
    · unfold okW; decide
  rw [if_neg h10] at hx hn ha
  by_cases h11 : c.kind = 11
  · rw [if_pos h11] at hx hn
    simp only [List.mem_cons, List.not_mem_nil, or_false] at hx
    rcases hx with rfl | rfl | rfl | rfl | rfl
    · unfold okW; decide
    · exact headD_ok (by intro e; rw [e] at hn; cases hn) hnn
    · unfold okW; decide
    · exact numW_ok ha
    · unfold okW; decide
  rw [if_neg h11] at hx
  simp only [List.mem_cons, List.not_mem_nil, or_false] at hx
  rcases hx with rfl | rfl | rfl
  · exact kindW_ok (by omega)
  · exact numW_ok ha
  · unfold okW; decide
theorem textsT_ok {c : Cl} (h : formT c) : ∀ x ∈ textsT c, okW x := by
  obtain ⟨hk, hi, ha, hb, hd, hn, hnn, hit⟩ := h
  intro x hx
  unfold textsT at hx
  by_cases h1 : c.kind = 1
  · rw [if_pos h1] at hx hn hit
    simp only [List.mem_cons, List.mem_append, List.not_mem_nil, or_false, List.mem_flatMap] at hx
    rcases hx with rfl | rfl | rfl | ⟨i, hi, hx⟩ | rfl
    · unfold okW; decide
    · exact headD_ok (by intro e; rw [e] at hn; cases hn) hnn
    · unfold okW; decide
    · exact textsI_ok (hit i hi) x hx
    · unfold okW; decide
  rw [if_neg h1] at hx
  by_cases h2 : c.kind = 2
  · rw [if_pos h2] at hx hb
    rw [if_pos (.inl h2)] at hi ha hd
    simp only [List.mem_cons, List.not_mem_nil, or_false] at hx
    rcases hx with rfl | rfl | rfl | rfl | rfl | rfl | rfl | rfl
    · unfold okW; decide
    · exact domW_ok hd
    · exact numW_ok hi
    · unfold okW; decide
    · exact numW_ok ha
    · unfold okW; decide
    · exact numW_ok hb
    · unfold okW; decide
  rw [if_neg h2] at hx
  by_cases h3 : c.kind = 3
  · rw [if_pos h3] at hx
    rw [if_pos (.inr (.inl h3))] at hi
    rw [if_pos (.inr h3)] at hd
    simp only [List.mem_cons, List.not_mem_nil, or_false] at hx
    rcases hx with rfl | rfl | rfl | rfl
    · unfold okW; decide
    · exact domW_ok hd
    · exact numW_ok hi
    · unfold okW; decide
  rw [if_neg h3] at hx
  by_cases h4 : c.kind = 4
  · rw [if_pos h4] at hx
    rw [if_pos (.inr (.inl h4))] at ha
    simp only [List.mem_cons, List.not_mem_nil, or_false] at hx
    rcases hx with rfl | rfl | rfl
    · unfold okW; decide
    · exact numW_ok ha
    · unfold okW; decide
  rw [if_neg h4] at hx
  have h5 : c.kind = 5 := by omega
  rw [if_pos (.inr (.inr h5))] at hi ha
  simp only [List.mem_cons, List.not_mem_nil, or_false] at hx
  rcases hx with rfl | rfl | rfl | rfl | rfl | rfl
  · unfold okW; decide
  · unfold okW; decide
  · exact numW_ok hi
  · unfold okW; decide
  · exact numW_ok ha
  · unfold okW; decide
/-- The words of what can be printed. -/
theorem words_ok {l : List Cl} (h : ∀ c ∈ l, formT c) : ∀ x ∈ l.flatMap textsT, x ≠ [] ∧ x.length ≤ 100000 := by
  intro x hx
  obtain ⟨c, hc, hx⟩ := List.mem_flatMap.1 hx
  exact textsT_ok (h c hc) x hx

/-! how many words -/
theorem commas_len : ∀ l : List (List UInt8), (commas l).length = 2 * l.length
  | [] => rfl
  | n :: l => by rw [commas]; simp [commas_len l]; omega
theorem numP_l {ts : List Tok} {v : Int} {r : List Tok} (e : numP ts = .ok (v, r)) : ts.length = r.length + 1 := by
  obtain ⟨t, h1, _⟩ := numP_len e; rw [h1]; rfl
theorem nameP_l {ts : List Tok} {v : List UInt8} {r : List Tok} (e : nameP ts = .ok (v, r)) : ts.length = r.length + 1 := by
  obtain ⟨t, h1, _⟩ := nameP_len e; rw [h1]; rfl
theorem scopeP_l {ts : List Tok} {v : Nat} {r : List Tok} (e : scopeP ts = .ok (v, r)) : ts.length = r.length + 1 := by
  obtain ⟨t, h1, _⟩ := scopeP_len e; rw [h1]; rfl
theorem wantP_l {s : List UInt8} {ts : List Tok} {v : Tok} {r : List Tok} (e : wantP s ts = .ok (v, r)) : ts.length = r.length + 1 := by
  obtain ⟨h1, _⟩ := wantP_len e; rw [h1]; rfl
theorem moreP_l : ∀ (n : Nat) {ts : List Tok} {l : List (List UInt8)} {r : List Tok}, ts.length ≤ n → moreP ts = .ok (l, r) → ts.length = r.length + 2 * l.length := by
  intro n
  induction n with
  | zero =>
    intro ts l r hn e
    obtain rfl : ts = [] := List.length_eq_zero_iff.1 (by omega)
    injection e with e
    injection e with e e2
    subst e e2
    rfl
  | succ n ih =>
    intro ts l r hn e
    rcases ts with _ | ⟨a, _ | ⟨b, ts⟩⟩
    · injection e with e
      injection e with e e2
      subst e e2
      rfl
    · by_cases ha : (a.text == sComma) = true
      · rw [moreP, if_pos ha] at e; cases e
      · rw [moreP, if_neg ha] at e
        injection e with e
        injection e with e e2
        subst e e2
        rfl
    · rw [moreP_at] at e
      by_cases ha : (a.text == sComma) = true
      · rw [if_pos ha] at e
        by_cases hb : namedT b = true
        · rw [if_pos hb] at e
          obtain ⟨l', r1, h1, h2⟩ := andP_ok e
          injection h2 with h2
          injection h2 with h2 h3
          subst h2 h3
          have := ih (by simp at hn; omega) h1
          simp only [List.length_cons]
          omega
        · rw [if_neg hb] at e; cases e
      · rw [if_neg ha] at e
        injection e with e
        injection e with e e2
        subst e e2
        rfl
theorem itemP_words {ts : List Tok} {c : Cl} {r : List Tok} (e : itemP ts = .ok (c, r)) : ts.length = r.length + (textsI c).length := by
  rcases ts with _ | ⟨t, ts⟩
  · cases e
  rw [itemP_at] at e
  by_cases hk : itemK t.text = 0
  · rw [if_pos hk] at e; cases e
  rw [if_neg hk] at e
  generalize itemK t.text = k at e
  obtain ⟨c', r1, h1, h2⟩ := andP_ok e
  obtain ⟨_, r2, h4, h3⟩ := andP_ok h2
  injection h3 with h3
  injection h3 with h3 h5
  subst h3 h5
  have l1 := wantP_l h4
  unfold bodyI at h1
  by_cases h9 : k = 9
  · rw [if_pos h9] at h1
    obtain ⟨a, q1, e1, h1⟩ := andP_ok h1
    obtain ⟨_, q2, e2, h1⟩ := andP_ok h1
    obtain ⟨d, q3, e3, h1⟩ := andP_ok h1
    injection h1 with h1
    injection h1 with h1 h6
    subst h1 h6
    have := numP_l e1; have := wantP_l e2; have := scopeP_l e3
    simp [textsI, Cl.kind]
    omega
  rw [if_neg h9] at h1
  by_cases h10 : k = 10
  · rw [if_pos h10] at h1
    obtain ⟨n, q1, e1, h1⟩ := andP_ok h1
    obtain ⟨l, q2, e2, h1⟩ := andP_ok h1
    injection h1 with h1
    injection h1 with h1 h6
    subst h1 h6
    have := nameP_l e1; have := moreP_l _ (Nat.le_refl _) e2
    simp [textsI, Cl.kind, Cl.names, commas_len]
    omega
  rw [if_neg h10] at h1
  by_cases h11 : k = 11
  · rw [if_pos h11] at h1
    obtain ⟨n, q1, e1, h1⟩ := andP_ok h1
    obtain ⟨_, q2, e2, h1⟩ := andP_ok h1
    obtain ⟨a, q3, e3, h1⟩ := andP_ok h1
    injection h1 with h1
    injection h1 with h1 h6
    subst h1 h6
    have := nameP_l e1; have := wantP_l e2; have := numP_l e3
    simp [textsI, Cl.kind, Cl.names]
    omega
  rw [if_neg h11] at h1
  obtain ⟨a, q1, e1, h1⟩ := andP_ok h1
  injection h1 with h1
  injection h1 with h1 h6
  subst h1 h6
  have := numP_l e1
  simp [textsI, Cl.kind, h9, h10, h11]
  omega
theorem itemsP_words : ∀ (n : Nat) {ts : List Tok} {l : List Cl} {r : List Tok}, itemsP n ts = .ok (l, r) → ts.length = r.length + (l.flatMap textsI).length + 1 := by
  intro n
  induction n with
  | zero => intro ts l r e; cases e
  | succ n ih =>
    intro ts l r e
    rcases ts with _ | ⟨t, ts⟩
    · cases e
    rw [itemsP_at] at e
    by_cases hc : (t.text == sClose) = true
    · rw [if_pos hc] at e
      injection e with e
      injection e with e e2
      subst e e2
      simp
    · rw [if_neg hc] at e
      obtain ⟨c, r1, h1, h2⟩ := andP_ok e
      obtain ⟨l', r2, h3, h4⟩ := andP_ok h2
      injection h4 with h4
      injection h4 with h4 h5
      subst h4 h5
      have := itemP_words h1; have := ih h3
      rw [List.flatMap_cons, List.length_append]
      omega
theorem topP_words {ts : List Tok} {c : Cl} {r : List Tok} (e : topP ts = .ok (c, r)) : ts.length = r.length + (textsT c).length := by
  rcases ts with _ | ⟨t, ts⟩
  · cases e
  rw [topP_at] at e
  by_cases hk : topK t.text = 0
  · rw [if_pos hk] at e; cases e
  rw [if_neg hk] at e
  obtain ⟨hk1, hk2⟩ := topK_range hk
  generalize topK t.text = k at e hk1 hk2
  have hk' : k = 1 ∨ k = 2 ∨ k = 3 ∨ k = 4 ∨ k = 5 := by omega
  rcases hk' with rfl | rfl | rfl | rfl | rfl
  · have h1 : bodyT 1 t.off ts = .ok (c, r) := e
    unfold bodyT at h1
    rw [if_pos rfl] at h1
    obtain ⟨n, q1, e1, h1⟩ := andP_ok h1
    obtain ⟨_, q2, e2, h1⟩ := andP_ok h1
    obtain ⟨l, q3, e3, h1⟩ := andP_ok h1
    injection h1 with h1
    injection h1 with h1 h6
    subst h1 h6
    have := nameP_l e1; have := wantP_l e2; have h7 := itemsP_words _ e3
    obtain ⟨z, hz⟩ : ∃ z, l.flatMap textsI = z := ⟨_, rfl⟩
    rw [hz] at h7
    simp only [textsT, Cl.kind, Cl.items, hz, reduceIte]
    simp
    omega
  · obtain ⟨c', r1, h1, h2⟩ := andP_ok (show semiP (bodyT 2 t.off ts) = .ok (c, r) from e)
    obtain ⟨_, r2, h4, h3⟩ := andP_ok h2
    injection h3 with h3
    injection h3 with h3 h5
    subst h3 h5
    have l1 := wantP_l h4
    unfold bodyT at h1
    rw [if_neg (by decide), if_pos rfl] at h1
    obtain ⟨d, q1, e1, h1⟩ := andP_ok h1
    obtain ⟨i, q2, e2, h1⟩ := andP_ok h1
    obtain ⟨_, q3, e3, h1⟩ := andP_ok h1
    obtain ⟨a, q4, e4, h1⟩ := andP_ok h1
    obtain ⟨_, q5, e5, h1⟩ := andP_ok h1
    obtain ⟨b, q6, e6, h1⟩ := andP_ok h1
    injection h1 with h1
    injection h1 with h1 h6
    subst h1 h6
    have := scopeP_l e1; have := numP_l e2; have := wantP_l e3; have := numP_l e4; have := wantP_l e5; have := numP_l e6
    simp [textsT, Cl.kind]
    omega
  · obtain ⟨c', r1, h1, h2⟩ := andP_ok (show semiP (bodyT 3 t.off ts) = .ok (c, r) from e)
    obtain ⟨_, r2, h4, h3⟩ := andP_ok h2
    injection h3 with h3
    injection h3 with h3 h5
    subst h3 h5
    have l1 := wantP_l h4
    unfold bodyT at h1
    rw [if_neg (by decide), if_neg (by decide), if_pos rfl] at h1
    obtain ⟨d, q1, e1, h1⟩ := andP_ok h1
    obtain ⟨i, q2, e2, h1⟩ := andP_ok h1
    injection h1 with h1
    injection h1 with h1 h6
    subst h1 h6
    have := scopeP_l e1; have := numP_l e2
    simp [textsT, Cl.kind]
    omega
  · obtain ⟨c', r1, h1, h2⟩ := andP_ok (show semiP (bodyT 4 t.off ts) = .ok (c, r) from e)
    obtain ⟨_, r2, h4, h3⟩ := andP_ok h2
    injection h3 with h3
    injection h3 with h3 h5
    subst h3 h5
    have l1 := wantP_l h4
    unfold bodyT at h1
    rw [if_neg (by decide), if_neg (by decide), if_neg (by decide), if_pos rfl] at h1
    obtain ⟨a, q1, e1, h1⟩ := andP_ok h1
    injection h1 with h1
    injection h1 with h1 h6
    subst h1 h6
    have := numP_l e1
    simp [textsT, Cl.kind]
    omega
  · obtain ⟨c', r1, h1, h2⟩ := andP_ok (show semiP (bodyT 5 t.off ts) = .ok (c, r) from e)
    obtain ⟨_, r2, h4, h3⟩ := andP_ok h2
    injection h3 with h3
    injection h3 with h3 h5
    subst h3 h5
    have l1 := wantP_l h4
    unfold bodyT at h1
    rw [if_neg (by decide), if_neg (by decide), if_neg (by decide), if_neg (by decide)] at h1
    obtain ⟨_, q1, e1, h1⟩ := andP_ok h1
    obtain ⟨i, q2, e2, h1⟩ := andP_ok h1
    obtain ⟨_, q3, e3, h1⟩ := andP_ok h1
    obtain ⟨a, q4, e4, h1⟩ := andP_ok h1
    injection h1 with h1
    injection h1 with h1 h6
    subst h1 h6
    have := wantP_l e1; have := numP_l e2; have := wantP_l e3; have := numP_l e4
    simp [textsT, Cl.kind]
    omega
theorem allP_words : ∀ (n : Nat) {ts : List Tok} {l : List Cl} {r : List Tok}, ts.length ≤ n → allP ts = .ok (l, r) → ts.length = r.length + (l.flatMap textsT).length := by
  intro n
  induction n with
  | zero =>
    intro ts l r hn e
    obtain rfl : ts = [] := List.length_eq_zero_iff.1 (by omega)
    injection e with e
    injection e with e e2
    subst e e2
    rfl
  | succ n ih =>
    intro ts l r hn e
    rcases ts with _ | ⟨t, ts⟩
    · injection e with e
      injection e with e e2
      subst e e2
      rfl
    rw [allP_cons] at e
    obtain ⟨c, r1, h1, h2⟩ := andP_ok e
    obtain ⟨l', r2, h3, h4⟩ := andP_ok h2
    injection h4 with h4
    injection h4 with h4 h5
    subst h4 h5
    have h6 := topP_len h1
    have := topP_words h1; have := ih (by simp at hn h6; omega) h3
    rw [List.flatMap_cons, List.length_append]
    omega
end Go.Proofs.YtganlldidjbpiaaGreatDoor

namespace Go.Proofs.YtganlldidjbpiaaGreatDoor
open Go.RowKit Go.Shelf

set_option maxRecDepth 100000 in
set_option maxHeartbeats 4000000 in
theorem SPrint_all (N : Nat) (D : Nat → Prop) (w : World) (v : Value) (l : List Cl) (h : SlC D w v l) (hN : N ≤ w.heap.size) (he : Wds N w) (ht : Tab10 w) (hwl : (∀ c ∈ l, formT c) → (l.flatMap textsT).length ≤ 100000) :
    Calls Tryz.prog 15 #[v] w (RetPr w (printC l)) := by
  cases hfb : l.all formBT with
  | true =>
    have hall : ∀ c ∈ l, formT c := fun c hc => (formBT_iff c).1 (List.all_eq_true.1 hfb c hc)
    exact SPrint_c N D w v l h hN he ht (hwl hall) (words_ok hall)
  | false =>
    have HF := Lib.hid (Formed_c N D w _ l h hN he)
    obtain ⟨pr, hpr⟩ : ∃ p, printC l = p := ⟨_, rfl⟩
    have HP2 : Hid (pr = ([], 1)) := by show _ = _; rw [← hpr]; exact printC_no hfb
    rw [hpr]
    rw [hfb] at HF
    obtain ⟨pl, cl, rfl, l1, l2, _⟩ := h.shape
    clear h he ht hwl hpr hfb
    go_enter Tryz.func15, Tryz.ntmps15
    go_wp2_with fail
    refine HF.out.mono ?_
    rintro e w1 ⟨rfl, hb1⟩
    have HB1 := Lib.hid hb1
    clear hb1
    go_wp2_with fail
    go_ret2
    exact ⟨by rw [HP2.out]; rfl, HB1.out⟩
/-- What Parse returns has few words. -/
theorem parse_words {s : List UInt8} {l : List Cl} {o : Int} (h : parseF s = (l, o, 0)) : (l.flatMap textsT).length ≤ 4096 := by
  rcases parse_cases s with ⟨o', e, he, _, hp⟩ | ⟨u, _, r, _, hp⟩ | ⟨u, ht, cs, ha, hp⟩
  · rw [hp] at h
    injection h with _ h
    injection h with _ h
    exact absurd h he
  · rw [hp] at h
    injection h with _ h
    injection h with _ h
    cases h
  · rw [hp] at h
    injection h with h _
    subst h
    have h1 := allP_words _ (Nat.le_refl _) ha
    have h2 := toks_len s
    rw [ht] at h2
    simp only at h2
    rw [List.length_nil, Nat.zero_add] at h1
    omega
end Go.Proofs.YtganlldidjbpiaaGreatDoor

namespace Go.Proofs.YtganlldidjbpiaaGreatDoor

/-- A token moved on. -/
def move (n : Nat) (t : Tok) : Tok := t.at_ (t.off + (n : Int))
theorem items_move (n : Nat) (l : List UInt8) : items n l = (items 0 l).map fun x => (move n x.1, x.2) := by
  have := items_shift n 0 l
  rw [Nat.zero_add] at this
  rw [this]
  rfl
theorem fin_move (n : Nat) : ∀ (l : List (Tok × Nat)) (acc acc' : List Tok), (fin l acc').2.2 ≠ 0 → fin (l.map fun x => (move n x.1, x.2)) acc = ([], (fin l acc').2.1 + (n : Int), (fin l acc').2.2)
  | [], acc, acc', h => by simp [fin] at h
  | (t, e) :: r, acc, acc', h => by
    by_cases h0 : e = 0
    · rw [fin, if_pos h0] at h ⊢
      rw [List.map_cons, fin, if_pos h0]
      exact fin_move n r _ _ h
    · rw [List.map_cons, fin, if_neg h0, fin, if_neg h0]
      rfl
section
variable {a b : List UInt8}
theorem apart_len (ha : a.length ≤ 2000) (hb : b.length ≤ 2000) : (a ++ 10 :: b).length ≤ 4096 := by
  rw [List.length_append, List.length_cons]; omega
theorem toks_not {l : List UInt8} (hl : l.length ≤ 4096) (h : (toksF l).2.2 ≠ 0) : ¬ okI (items 0 l) := by
  intro hok
  rw [toksF_ok (by omega), fin_ok _ _ hok] at h
  exact h rfl
/-- An error of the first text. -/
theorem apart_first (ha : a.length ≤ 2000) (hb : b.length ≤ 2000) (h : (toksF a).2.2 ≠ 0) : toksF (a ++ 10 :: b) = toksF a := by
  have hn := toks_not (by omega) h
  have := (items_apart b 0 a).2 hn
  rw [toksF_ok (by have := apart_len ha hb; omega), toksF_ok (by omega), this]
/-- An error of the second text. -/
theorem apart_second (ha : a.length ≤ 2000) (hb : b.length ≤ 2000) (h0 : (toksF a).2.2 = 0) (h : (toksF b).2.2 ≠ 0) : toksF (a ++ 10 :: b) = ([], (a.length : Int) + 1 + (toksF b).2.1, (toksF b).2.2) := by
  obtain ⟨_, hok, _⟩ := toks_good h0
  have e := (items_apart b 0 a).1 hok
  rw [toksF_ok (by omega)] at h
  rw [toksF_ok (by have := apart_len ha hb; omega), e, fin_app _ _ _ hok, Nat.zero_add, items_move, fin_move (a.length + 1) (items 0 b) _ [] h, toksF_ok (l := b) (by omega)]
  congr 2
  omega
/-- No error. -/
theorem apart_both (ha : a.length ≤ 2000) (hb : b.length ≤ 2000) (h0 : (toksF a).2.2 = 0) (h1 : (toksF b).2.2 = 0) : toksF (a ++ 10 :: b) = ((toksF a).1 ++ (toksF b).1.map (move (a.length + 1)), 0, 0) := by
  obtain ⟨_, hok, e1⟩ := toks_good h0
  obtain ⟨_, hok2, e2⟩ := toks_good h1
  have e := (items_apart b 0 a).1 hok
  have hokm : okI ((items 0 b).map fun x => (move (a.length + 1) x.1, x.2)) := by
    intro x hx
    obtain ⟨y, hy, rfl⟩ := List.mem_map.1 hx
    exact hok2 y hy
  rw [toksF_ok (by have := apart_len ha hb; omega), e, fin_app _ _ _ hok, Nat.zero_add, items_move, fin_ok _ _ hokm, e1, e2]
  simp [List.map_map, Function.comp_def]
end
theorem move_bare (n : Nat) (us : List Tok) : (us.map (move n)).map bare = us.map bare := by
  rw [List.map_map]
  exact List.map_congr_left (fun t _ => rfl)
theorem toks_off (l : List UInt8) (h : (toksF l).2.2 = 0) : ∀ t ∈ (toksF l).1, 0 ≤ t.off ∧ t.off ≤ 4096 := by
  obtain ⟨h1, _, e⟩ := toks_good h
  rw [e]
  intro t ht
  obtain ⟨x, hx, rfl⟩ := List.mem_map.1 ht
  have := items_off 0 l x hx
  omega
end Go.Proofs.YtganlldidjbpiaaGreatDoor

namespace Go.Proofs.YtganlldidjbpiaaGreatDoor
open Go.RowKit Go.Shelf

/-- Where Parse fails. -/
theorem parse_bounds {s : List UInt8} {l : List Cl} {o : Int} {e : Nat} (h : parseF s = (l, o, e)) (he : e ≠ 0) : l = [] ∧ 0 ≤ o ∧ o ≤ max (s.length : Int) 4096 := by
  rcases parse_cases s with ⟨o', e', he', ht, hp⟩ | ⟨u, ht, r, ha, hp⟩ | ⟨u, ht, cs, ha, hp⟩
  · rw [hp] at h
    injection h with h1 h2
    injection h2 with h2 h3
    subst h1 h2 h3
    have := toks_err (l := s) (by rw [ht]; exact he')
    rw [ht] at this
    obtain ⟨_, h1, h2⟩ := this
    simp only at h1 h2
    exact ⟨rfl, h1, by omega⟩
  · rw [hp] at h
    injection h with h1 h2
    injection h2 with h2 h3
    subst h1 h2 h3
    refine ⟨rfl, ?_⟩
    rcases r with _ | ⟨t, r⟩
    · show 0 ≤ (s.length : Int) ∧ (s.length : Int) ≤ _
      omega
    · obtain ⟨v, hv, _⟩ := allP_err ha
      have := toks_off s (by rw [ht]) t (by rw [ht, hv]; simp)
      show 0 ≤ t.off ∧ t.off ≤ _
      omega
  · rw [hp] at h
    injection h with h1 h2
    injection h2 with h2 h3
    exact absurd h3.symm he
def awakeS : List UInt8 := [98, 108, 97, 115, 116, 32, 50, 59, 32, 97, 112, 112, 114, 111, 118, 101, 32, 114, 111, 119, 32, 49, 59]
def awakeL : List Cl := [.mk 4 [] 0 0 2 0 [] 0, .mk 3 [] 3 1 0 0 [] 9]
def awakeT : List UInt8 := [98, 108, 97, 115, 116, 32, 50, 32, 59, 32, 97, 112, 112, 114, 111, 118, 101, 32, 114, 111, 119, 32, 49, 32, 59]
theorem parse_awake : parseF awakeS = (awakeL, 0, 0) := by kernel_rfl
theorem form_awake : awakeL.all formBT = true := by kernel_rfl
theorem text_awake : textC awakeL = awakeT := by
  show joinL [32] [sBlast, numW 2, sSemi, sApprove, sRow, numW 1, sSemi] = awakeT
  rw [show numW 2 = [50] from dd_small (n := 2) (by decide), show numW 1 = [49] from dd_small (n := 1) (by decide)]
  kernel_rfl
theorem print_awake : printC awakeL = (awakeT, 0) := by
  rw [printC_yes form_awake, text_awake, if_neg (by decide)]
theorem same_awake : eqL awakeL awakeL = true := by kernel_rfl
theorem same_awake0 : eqL awakeL [] = false := by kernel_rfl
set_option maxRecDepth 100000 in
set_option maxHeartbeats 4000000 in
theorem sawake_c (N : Nat) (w : World) (hN : N ≤ w.heap.size) (he : Wds N w) (ht : Tab10 w) : Calls Tryz.prog 13 #[] w (RetB w true) := by
  have HE := Lib.hid he
  have HT := Lib.hid ht
  clear he ht
  go_enter Tryz.func13, Tryz.ntmps13
  go_wp2_with fail
  refine (Parse_c N _ awakeS (by decide) hN HE.out).mono ?_
  rw [parse_awake]
  rintro e w1 ⟨v, rfl, hv, hb⟩
  have HV := Lib.hid hv
  have HB := Lib.hid hb
  have hN1 : N ≤ w1.heap.size := Nat.le_trans hN hb.size
  have HE1 := Lib.hid (HE.out.after hb)
  have HT1 := Lib.hid (HT.out.after hb)
  obtain ⟨b, off, cap, rfl, h1, h2, _, h3, hc⟩ := hv.at_ (by decide)
  simp only at h1 h2 h3 hc
  obtain ⟨_, _, _, a0, _, a2, a3, a4, a5, _, a7⟩ := hc 0 (by decide)
  obtain ⟨_, _, _, b0, _, b2, b3, b4, b5, _, b7⟩ := hc 1 (by decide)
  have a0 : w1.cell? ⟨b, off, none⟩ = some (.int .u8 4) := a0
  have a4 : w1.cell? ⟨b, off + 4, none⟩ = some (.int .i64 2) := a4
  have b0 : w1.cell? ⟨b, off + 8, none⟩ = some (.int .u8 3) := b0
  have b2 : w1.cell? ⟨b, off + 10, none⟩ = some (.int .u8 3) := b2
  have b3 : w1.cell? ⟨b, off + 11, none⟩ = some (.int .i64 1) := b3
  have b7 : w1.cell? ⟨b, off + 15, none⟩ = some (.int .i64 9) := b7
  clear hc hv hb a2 a3 a5 a7 b4 b5
  go_wp2_with fail
  refine (SPrint_all N _ _ _ _ HV.out hN1 HE1.out HT1.out (fun _ => by decide)).mono ?_
  rw [print_awake]
  rintro e w2 ⟨rfl, hb2⟩
  have HB2 := Lib.hid (HB.out.trans (hb2.mono HB.out.size))
  have HV2 := Lib.hid (HV.out.after hb2)
  have HE2 := Lib.hid (HE1.out.after hb2)
  have hN2 : N ≤ w2.heap.size := Nat.le_trans hN1 hb2.size
  have q1 : (bs awakeT).toList = [98, 108, 97, 115, 116, 32, 50, 32, 59, 32, 97, 112, 112, 114, 111, 118, 101, 32, 114, 111, 119, 32, 49, 32, 59] := list_bs _
  clear hb2 a0 a4 b0 b2 b3 b7
  go_wp2_with fail
  refine (Same_c _ _ _ _ _ _ _ HV2.out HV2.out).mono ?_
  rw [same_awake]
  rintro e w3 ⟨rfl, hb3⟩
  have HB3 := Lib.hid (HB2.out.trans (hb3.mono HB2.out.size))
  have HV3 := Lib.hid (HV2.out.after hb3)
  have HE3 := Lib.hid (HE2.out.after hb3)
  have hN3 : N ≤ w3.heap.size := Nat.le_trans hN2 hb3.size
  clear hb3
  go_wp2_with fail
  refine (Same_c _ (fun _ => False) _ _ _ _ [] HV3.out (SlC.nil _ _)).mono ?_
  rw [same_awake0]
  rintro e w4 ⟨rfl, hb4⟩
  have HB4 := Lib.hid (HB3.out.trans (hb4.mono HB3.out.size))
  have HV4 := Lib.hid (HV3.out.after hb4)
  have HE4 := Lib.hid (HE3.out.after hb4)
  have hN4 : N ≤ w4.heap.size := Nat.le_trans hN3 hb4.size
  clear hb4
  go_wp2_with fail
  refine (Formed_c N _ _ _ _ HV4.out hN4 HE4.out).mono ?_
  rw [form_awake]
  rintro e w5 ⟨rfl, hb5⟩
  have HB5 := Lib.hid (HB4.out.trans (hb5.mono HB4.out.size))
  clear hb5
  go_wp2_with fail
  go_ret
  exact ⟨rfl, HB5.out⟩
end Go.Proofs.YtganlldidjbpiaaGreatDoor

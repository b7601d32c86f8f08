/- Syntax, plain: what is read can be printed; what is printed hangs on no offset; shifted tokens. No program in it.
   Syntax, plain: what is printed hangs on no offset; tokens that are moved. No program in it.
   Syntax, plain: tokens that are moved; two texts with a line feed between them. No program in it.
   Syntax, plain: two texts with a line feed between them. No program in it. -/
import Derived.Test.YtganlldidjbpiaaGreatDoorK03
import Derived.Test.YtganlldidjbpiaaGreatDoorK04
set_option linter.unusedVariables false
namespace Go.Proofs.YtganlldidjbpiaaGreatDoor
open Go

theorem numP_ok {ts : List Tok} {v : Int} {r : List Tok} (e : numP ts = .ok (v, r)) (hr : ∀ t ∈ ts, rightT t) : okNum v := by
  obtain ⟨t, h1, _, rfl⟩ := numP_len e
  exact right_num (hr t (by rw [h1]; simp)) (fst1_num _)
theorem nameP_ok {ts : List Tok} {v : List UInt8} {r : List Tok} (e : nameP ts = .ok (v, r)) (hr : ∀ t ∈ ts, rightT t) : okName v := by
  obtain ⟨t, h1, h2, rfl⟩ := nameP_len e
  exact right_name (hr t (by rw [h1]; simp)) h2
theorem scopeP_ok {ts : List Tok} {v : Nat} {r : List Tok} (e : scopeP ts = .ok (v, r)) : okDom v := by
  obtain ⟨t, _, h2, rfl⟩ := scopeP_len e
  exact scope_ok (by unfold scopedT at h2; simpa using h2)
theorem numP_suf {ts : List Tok} {v : Int} {r : List Tok} (e : numP ts = .ok (v, r)) {P : Tok → Prop} (hr : ∀ t ∈ ts, P t) : ∀ t ∈ r, P t := by
  obtain ⟨t, h1, _⟩ := numP_len e
  exact fun x hx => hr x (by rw [h1]; simp [hx])
theorem nameP_suf {ts : List Tok} {v : List UInt8} {r : List Tok} (e : nameP ts = .ok (v, r)) {P : Tok → Prop} (hr : ∀ t ∈ ts, P t) : ∀ t ∈ r, P t := by
  obtain ⟨t, h1, _⟩ := nameP_len e
  exact fun x hx => hr x (by rw [h1]; simp [hx])
theorem scopeP_suf {ts : List Tok} {v : Nat} {r : List Tok} (e : scopeP ts = .ok (v, r)) {P : Tok → Prop} (hr : ∀ t ∈ ts, P t) : ∀ t ∈ r, P t := by
  obtain ⟨t, h1, _⟩ := scopeP_len e
  exact fun x hx => hr x (by rw [h1]; simp [hx])
theorem wantP_suf {s : List UInt8} {ts : List Tok} {v : Tok} {r : List Tok} (e : wantP s ts = .ok (v, r)) {P : Tok → Prop} (hr : ∀ t ∈ ts, P t) : ∀ t ∈ r, P t := by
  obtain ⟨h1, _⟩ := wantP_len e
  exact fun x hx => hr x (by rw [h1]; simp [hx])
theorem moreP_ok : ∀ (n : Nat) {ts : List Tok} {l : List (List UInt8)} {r : List Tok}, ts.length ≤ n → moreP ts = .ok (l, r) → (∀ t ∈ ts, rightT t) → ∀ m ∈ l, okName m := by
  intro n
  induction n with
  | zero =>
    intro ts l r hn e _
    obtain rfl : ts = [] := List.length_eq_zero_iff.1 (by omega)
    injection e with e
    injection e with e _
    subst e
    simp
  | succ n ih =>
    intro ts l r hn e hr
    rcases ts with _ | ⟨a, _ | ⟨b, ts⟩⟩
    · injection e with e
      injection e with e _
      subst e
      simp
    · by_cases ha : (a.text == sComma) = true
      · rw [moreP, if_pos ha] at e; cases e
      · rw [moreP, if_neg ha] at e
        injection e with e
        injection e with e _
        subst e
        simp
    · rw [moreP_at] at e
      by_cases ha : (a.text == sComma) = true
      · rw [if_pos ha] at e
        by_cases hb : namedT b = true
        · rw [if_pos hb] at e
          obtain ⟨l', r1, h1, h2⟩ := andP_ok e
          injection h2 with h2
          injection h2 with h2 _
          subst h2
          intro m hm
          rcases List.mem_cons.1 hm with rfl | hm
          · exact right_name (hr b (by simp)) hb
          · exact ih (by simp at hn; omega) h1 (fun t ht => hr t (by simp [ht])) m hm
        · rw [if_neg hb] at e; cases e
      · rw [if_neg ha] at e
        injection e with e
        injection e with e _
        subst e
        simp
theorem itemK_range {s : List UInt8} (h : itemK s ≠ 0) : 6 ≤ itemK s ∧ itemK s ≤ 12 := by
  unfold itemK at *
  repeat' split
  all_goals first | omega | (simp_all)
theorem topK_range {s : List UInt8} (h : topK s ≠ 0) : 1 ≤ topK s ∧ topK s ≤ 5 := by
  unfold topK at *
  repeat' split
  all_goals first | omega | (simp_all)
/-- What is read as an item can be printed. -/
theorem itemP_form {ts : List Tok} {c : Cl} {r : List Tok} (e : itemP ts = .ok (c, r)) (hr : ∀ t ∈ ts, rightT t) : formI c := by
  rcases ts with _ | ⟨t, ts⟩
  · cases e
  rw [itemP_at] at e
  by_cases hk : itemK t.text = 0
  · rw [if_pos hk] at e; cases e
  rw [if_neg hk] at e
  obtain ⟨hk1, hk2⟩ := itemK_range hk
  generalize itemK t.text = k at e hk1 hk2
  obtain ⟨c', r1, h1, h2⟩ := andP_ok e
  obtain ⟨_, r2, _, h3⟩ := andP_ok h2
  injection h3 with h3
  injection h3 with h3 _
  subst h3
  have hr' : ∀ x ∈ ts, rightT x := fun x hx => hr x (by simp [hx])
  unfold bodyI at h1
  by_cases h9 : k = 9
  · rw [if_pos h9] at h1
    obtain ⟨a, q1, e1, h1⟩ := andP_ok h1
    obtain ⟨_, q2, e2, h1⟩ := andP_ok h1
    obtain ⟨d, q3, e3, h1⟩ := andP_ok h1
    injection h1 with h1
    injection h1 with h1 _
    subst h1
    exact ⟨⟨Nat.le_of_ble_eq_true rfl, Nat.le_of_ble_eq_true rfl⟩, rfl, rfl, numP_ok e1 hr', scopeP_ok e3, rfl, by intro m hm; simp [Cl.names] at hm, rfl⟩
  rw [if_neg h9] at h1
  by_cases h10 : k = 10
  · rw [if_pos h10] at h1
    obtain ⟨n, q1, e1, h1⟩ := andP_ok h1
    obtain ⟨l, q2, e2, h1⟩ := andP_ok h1
    injection h1 with h1
    injection h1 with h1 _
    subst h1
    refine ⟨⟨Nat.le_of_ble_eq_true rfl, Nat.le_of_ble_eq_true rfl⟩, rfl, rfl, rfl, rfl, ?_, ?_, rfl⟩
    · show n :: l ≠ []
      simp
    · intro m hm
      rcases List.mem_cons.1 hm with rfl | hm
      · exact nameP_ok e1 hr'
      · exact moreP_ok _ (Nat.le_refl _) e2 (nameP_suf e1 hr') m hm
  rw [if_neg h10] at h1
  by_cases h11 : k = 11
  · rw [if_pos h11] at h1
    obtain ⟨n, q1, e1, h1⟩ := andP_ok h1
    obtain ⟨_, q2, e2, h1⟩ := andP_ok h1
    obtain ⟨a, q3, e3, h1⟩ := andP_ok h1
    injection h1 with h1
    injection h1 with h1 _
    subst h1
    refine ⟨⟨Nat.le_of_ble_eq_true rfl, Nat.le_of_ble_eq_true rfl⟩, rfl, rfl, numP_ok e3 (wantP_suf e2 (nameP_suf e1 hr')), rfl, rfl, ?_, rfl⟩
    intro m hm
    obtain rfl : m = n := by simpa [Cl.names] using hm
    exact nameP_ok e1 hr'
  rw [if_neg h11] at h1
  obtain ⟨a, q1, e1, h1⟩ := andP_ok h1
  injection h1 with h1
  injection h1 with h1 _
  subst h1
  refine ⟨⟨hk1, hk2⟩, rfl, rfl, ?_, ?_, ?_, by intro m hm; simp [Cl.names] at hm, rfl⟩
  · show if k = 10 then a = 0 else okNum a
    rw [if_neg h10]; exact numP_ok e1 hr'
  · show if k = 9 then okDom 0 else (0 : Nat) = 0
    rw [if_neg h9]
  · show if k = 10 then ([] : List (List UInt8)) ≠ [] else if k = 11 then ([] : List (List UInt8)).length = 1 else ([] : List (List UInt8)) = []
    rw [if_neg h10, if_neg h11]
theorem itemP_suf {ts : List Tok} {c : Cl} {r : List Tok} (e : itemP ts = .ok (c, r)) {P : Tok → Prop} (hr : ∀ t ∈ ts, P t) : ∀ t ∈ r, P t := by
  obtain ⟨u, h1, _⟩ := itemP_shut.ok ts c r e
  exact fun x hx => hr x (by rw [h1]; simp [hx])
theorem itemsP_form : ∀ (n : Nat) {ts : List Tok} {l : List Cl} {r : List Tok}, itemsP n ts = .ok (l, r) → (∀ t ∈ ts, rightT t) → ∀ c ∈ l, formI c := by
  intro n
  induction n with
  | zero => intro ts l r e; cases e
  | succ n ih =>
    intro ts l r e hr
    rcases ts with _ | ⟨t, ts⟩
    · cases e
    rw [itemsP_at] at e
    by_cases hc : (t.text == sClose) = true
    · rw [if_pos hc] at e
      injection e with e
      injection e with e _
      subst e
      simp
    · rw [if_neg hc] at e
      obtain ⟨c, r1, h1, h2⟩ := andP_ok e
      obtain ⟨l', r2, h3, h4⟩ := andP_ok h2
      injection h4 with h4
      injection h4 with h4 _
      subst h4
      intro d hd
      rcases List.mem_cons.1 hd with rfl | hd
      · exact itemP_form h1 hr
      · exact ih h3 (itemP_suf h1 hr) d hd
/-- What is read as a clause can be printed. -/
theorem topP_form {ts : List Tok} {c : Cl} {r : List Tok} (e : topP ts = .ok (c, r)) (hr : ∀ t ∈ ts, rightT t) : formT c := by
  rcases ts with _ | ⟨t, ts⟩
  · cases e
  rw [topP_at] at e
  by_cases hk : topK t.text = 0
  · rw [if_pos hk] at e; cases e
  rw [if_neg hk] at e
  obtain ⟨hk1, hk2⟩ := topK_range hk
  generalize topK t.text = k at e hk1 hk2
  have hr' : ∀ x ∈ ts, rightT x := fun x hx => hr x (by simp [hx])
  have hk' : k = 1 ∨ k = 2 ∨ k = 3 ∨ k = 4 ∨ k = 5 := by omega
  rcases hk' with rfl | rfl | rfl | rfl | rfl
  · have h1 : bodyT 1 t.off ts = .ok (c, r) := e
    unfold bodyT at h1
    rw [if_pos rfl] at h1
    obtain ⟨n, q1, e1, h1⟩ := andP_ok h1
    obtain ⟨_, q2, e2, h1⟩ := andP_ok h1
    obtain ⟨l, q3, e3, h1⟩ := andP_ok h1
    injection h1 with h1
    injection h1 with h1 _
    subst h1
    refine ⟨⟨Nat.le_of_ble_eq_true rfl, Nat.le_of_ble_eq_true rfl⟩, rfl, rfl, rfl, rfl, rfl, ?_, ?_⟩
    · intro m hm
      obtain rfl : m = n := by simpa [Cl.names] using hm
      exact nameP_ok e1 hr'
    · exact itemsP_form _ e3 (wantP_suf e2 (nameP_suf e1 hr'))
  · obtain ⟨c', r1, h1, h2⟩ := andP_ok (show semiP (bodyT 2 t.off ts) = .ok (c, r) from e)
    obtain ⟨_, r2, _, h3⟩ := andP_ok h2
    injection h3 with h3
    injection h3 with h3 _
    subst h3
    unfold bodyT at h1
    rw [if_neg (by decide), if_pos rfl] at h1
    obtain ⟨d, q1, e1, h1⟩ := andP_ok h1
    obtain ⟨i, q2, e2, h1⟩ := andP_ok h1
    obtain ⟨_, q3, e3, h1⟩ := andP_ok h1
    obtain ⟨a, q4, e4, h1⟩ := andP_ok h1
    obtain ⟨_, q5, e5, h1⟩ := andP_ok h1
    obtain ⟨b, q6, e6, h1⟩ := andP_ok h1
    injection h1 with h1
    injection h1 with h1 _
    subst h1
    have s1 := scopeP_suf e1 hr'
    have s2 := numP_suf e2 s1
    have s3 := wantP_suf e3 s2
    have s4 := numP_suf e4 s3
    have s5 := wantP_suf e5 s4
    exact ⟨⟨Nat.le_of_ble_eq_true rfl, Nat.le_of_ble_eq_true rfl⟩, numP_ok e2 s1, numP_ok e4 s3, numP_ok e6 s5, scopeP_ok e1, rfl, by intro m hm; simp [Cl.names] at hm, rfl⟩
  · obtain ⟨c', r1, h1, h2⟩ := andP_ok (show semiP (bodyT 3 t.off ts) = .ok (c, r) from e)
    obtain ⟨_, r2, _, h3⟩ := andP_ok h2
    injection h3 with h3
    injection h3 with h3 _
    subst h3
    unfold bodyT at h1
    rw [if_neg (by decide), if_neg (by decide), if_pos rfl] at h1
    obtain ⟨d, q1, e1, h1⟩ := andP_ok h1
    obtain ⟨i, q2, e2, h1⟩ := andP_ok h1
    injection h1 with h1
    injection h1 with h1 _
    subst h1
    exact ⟨⟨Nat.le_of_ble_eq_true rfl, Nat.le_of_ble_eq_true rfl⟩, numP_ok e2 (scopeP_suf e1 hr'), rfl, rfl, scopeP_ok e1, rfl, by intro m hm; simp [Cl.names] at hm, rfl⟩
  · obtain ⟨c', r1, h1, h2⟩ := andP_ok (show semiP (bodyT 4 t.off ts) = .ok (c, r) from e)
    obtain ⟨_, r2, _, h3⟩ := andP_ok h2
    injection h3 with h3
    injection h3 with h3 _
    subst h3
    unfold bodyT at h1
    rw [if_neg (by decide), if_neg (by decide), if_neg (by decide), if_pos rfl] at h1
    obtain ⟨a, q1, e1, h1⟩ := andP_ok h1
    injection h1 with h1
    injection h1 with h1 _
    subst h1
    exact ⟨⟨Nat.le_of_ble_eq_true rfl, Nat.le_of_ble_eq_true rfl⟩, rfl, numP_ok e1 hr', rfl, rfl, rfl, by intro m hm; simp [Cl.names] at hm, rfl⟩
  · obtain ⟨c', r1, h1, h2⟩ := andP_ok (show semiP (bodyT 5 t.off ts) = .ok (c, r) from e)
    obtain ⟨_, r2, _, h3⟩ := andP_ok h2
    injection h3 with h3
    injection h3 with h3 _
    subst h3
    unfold bodyT at h1
    rw [if_neg (by decide), if_neg (by decide), if_neg (by decide), if_neg (by decide)] at h1
    obtain ⟨_, q1, e1, h1⟩ := andP_ok h1
    obtain ⟨i, q2, e2, h1⟩ := andP_ok h1
    obtain ⟨_, q3, e3, h1⟩ := andP_ok h1
    obtain ⟨a, q4, e4, h1⟩ := andP_ok h1
    injection h1 with h1
    injection h1 with h1 _
    subst h1
    have s1 := wantP_suf e1 hr'
    have s2 := numP_suf e2 s1
    have s3 := wantP_suf e3 s2
    exact ⟨⟨Nat.le_of_ble_eq_true rfl, Nat.le_of_ble_eq_true rfl⟩, numP_ok e2 s1, numP_ok e4 s3, rfl, rfl, rfl, by intro m hm; simp [Cl.names] at hm, rfl⟩
theorem topP_suf {ts : List Tok} {c : Cl} {r : List Tok} (e : topP ts = .ok (c, r)) {P : Tok → Prop} (hr : ∀ t ∈ ts, P t) : ∀ t ∈ r, P t := by
  obtain ⟨u, h1, _⟩ := topP_shut.ok ts c r e
  exact fun x hx => hr x (by rw [h1]; simp [hx])
theorem allP_form : ∀ (n : Nat) {ts : List Tok} {l : List Cl} {r : List Tok}, ts.length ≤ n → allP ts = .ok (l, r) → (∀ t ∈ ts, rightT t) → ∀ c ∈ l, formT c := by
  intro n
  induction n with
  | zero =>
    intro ts l r hn e
    obtain rfl : ts = [] := List.length_eq_zero_iff.1 (by omega)
    injection e with e
    injection e with e _
    subst e
    simp
  | succ n ih =>
    intro ts l r hn e hr
    rcases ts with _ | ⟨t, ts⟩
    · injection e with e
      injection e with e _
      subst e
      simp
    rw [allP_cons] at e
    obtain ⟨c, r1, h1, h2⟩ := andP_ok e
    obtain ⟨l', r2, h3, h4⟩ := andP_ok h2
    injection h4 with h4
    injection h4 with h4 _
    subst h4
    have := topP_len h1
    intro d hd
    rcases List.mem_cons.1 hd with rfl | hd
    · exact topP_form h1 hr
    · exact ih (by simp at hn this; omega) h3 (topP_suf h1 hr) d hd
end Go.Proofs.YtganlldidjbpiaaGreatDoor

namespace Go.Proofs.YtganlldidjbpiaaGreatDoor
open Go

theorem Alike.parts {c d : Cl} (h : Alike c d) : c.kind = d.kind ∧ c.names = d.names ∧ c.dom = d.dom ∧ c.idx = d.idx ∧ c.a = d.a ∧ c.b = d.b ∧ stripL c.items = stripL d.items := by
  obtain ⟨k, n, dm, i, a, b, l, o⟩ := c
  obtain ⟨k', n', dm', i', a', b', l', o'⟩ := d
  unfold Alike at h
  rw [strip, strip] at h
  injection h with h1 h2 h3 h4 h5 h6 h7
  exact ⟨h1, h2, h3, h4, h5, h6, h7⟩
theorem textsI_alike {c d : Cl} (h : Alike c d) : textsI c = textsI d := by
  obtain ⟨h1, h2, h3, _, h5, _⟩ := h.parts
  unfold textsI
  rw [h1, h2, h3, h5]
theorem stripL_nil {l : List Cl} (h : stripL l = []) : l = [] := by
  cases l with
  | nil => rfl
  | cons c l => rw [stripL] at h; cases h
theorem stripL_cons {l m : List Cl} {c : Cl} (h : stripL (c :: l) = stripL m) : ∃ d m', m = d :: m' ∧ Alike c d ∧ stripL l = stripL m' := by
  cases m with
  | nil => rw [stripL, stripL] at h; cases h
  | cons d m' =>
    rw [stripL, stripL] at h
    injection h with h1 h2
    exact ⟨d, m', rfl, h1, h2⟩
theorem flatI_alike : ∀ {l m : List Cl}, stripL l = stripL m → l.flatMap textsI = m.flatMap textsI
  | [], m, h => by rw [stripL_nil (h.symm.trans (by rw [stripL]))]
  | c :: l, m, h => by
    obtain ⟨d, m', rfl, h1, h2⟩ := stripL_cons h
    rw [List.flatMap_cons, List.flatMap_cons, textsI_alike h1, flatI_alike h2]
theorem textsT_alike {c d : Cl} (h : Alike c d) : textsT c = textsT d := by
  obtain ⟨h1, h2, h3, h4, h5, h6, h7⟩ := h.parts
  unfold textsT
  rw [h1, h2, h3, h4, h5, h6, flatI_alike h7]
theorem flatT_alike : ∀ {l m : List Cl}, stripL l = stripL m → l.flatMap textsT = m.flatMap textsT
  | [], m, h => by rw [stripL_nil (h.symm.trans (by rw [stripL]))]
  | c :: l, m, h => by
    obtain ⟨d, m', rfl, h1, h2⟩ := stripL_cons h
    rw [List.flatMap_cons, List.flatMap_cons, textsT_alike h1, flatT_alike h2]
theorem formI_alike {c d : Cl} (h : Alike c d) (hc : formI c) : formI d := by
  obtain ⟨h1, h2, h3, h4, h5, h6, h7⟩ := h.parts
  obtain ⟨g1, g2, g3, g4, g5, g6, g7, g8⟩ := hc
  unfold formI
  rw [g8] at h7
  have h8 : d.items = [] := stripL_nil (h7.symm.trans (by rw [stripL]))
  rw [← h1, ← h2, ← h3, ← h4, ← h5, ← h6]
  exact ⟨g1, g2, g3, g4, g5, g6, g7, h8⟩
theorem formIL_alike : ∀ {l m : List Cl}, stripL l = stripL m → (∀ c ∈ l, formI c) → ∀ d ∈ m, formI d
  | [], m, h, _ => by rw [stripL_nil (h.symm.trans (by rw [stripL]))]; simp
  | c :: l, m, h, hc => by
    obtain ⟨d, m', rfl, h1, h2⟩ := stripL_cons h
    intro x hx
    rcases List.mem_cons.1 hx with rfl | hx
    · exact formI_alike h1 (hc c (by simp))
    · exact formIL_alike h2 (fun y hy => hc y (by simp [hy])) x hx
theorem formT_alike {c d : Cl} (h : Alike c d) (hc : formT c) : formT d := by
  obtain ⟨h1, h2, h3, h4, h5, h6, h7⟩ := h.parts
  obtain ⟨g1, g2, g3, g4, g5, g6, g7, g8⟩ := hc
  unfold formT
  rw [← h1, ← h2, ← h3, ← h4, ← h5, ← h6]
  refine ⟨g1, g2, g3, g4, g5, g6, g7, ?_⟩
  by_cases hk : c.kind = 1
  · rw [if_pos hk] at g8 ⊢
    exact formIL_alike h7 g8
  · rw [if_neg hk] at g8 ⊢
    rw [g8] at h7
    exact stripL_nil (h7.symm.trans (by rw [stripL]))
theorem formTL_alike : ∀ {l m : List Cl}, stripL l = stripL m → (∀ c ∈ l, formT c) → ∀ d ∈ m, formT d
  | [], m, h, _ => by rw [stripL_nil (h.symm.trans (by rw [stripL]))]; simp
  | c :: l, m, h, hc => by
    obtain ⟨d, m', rfl, h1, h2⟩ := stripL_cons h
    intro x hx
    rcases List.mem_cons.1 hx with rfl | hx
    · exact formT_alike h1 (hc c (by simp))
    · exact formTL_alike h2 (fun y hy => hc y (by simp [hy])) x hx
theorem printC_alike {l m : List Cl} (h : stripL l = stripL m) : printC l = printC m := by
  have e : textC l = textC m := by unfold textC; rw [flatT_alike h]
  unfold printC
  by_cases hl : ∀ c ∈ l, formT c
  · rw [if_pos hl, if_pos (formTL_alike h hl), e]
  · rw [if_neg hl, if_neg (fun hm => hl (formTL_alike h.symm hm))]
/-- The tokens of a text are right. -/
theorem toksF_right {s : List UInt8} {u : List Tok} {o : Int} (h : toksF s = (u, o, 0)) : ∀ t ∈ u, rightT t := by
  unfold toksF at h
  by_cases hl : 4096 < s.length
  · rw [if_pos hl] at h
    injection h with _ h
    injection h with _ h
    cases h
  · rw [if_neg hl] at h
    by_cases hok : okI (items 0 s)
    · rw [fin_ok _ _ hok] at h
      injection h with h _
      subst h
      intro t ht
      rw [List.nil_append] at ht
      obtain ⟨x, hx, rfl⟩ := List.mem_map.1 ht
      exact items_right 0 s x hx (hok x hx)
    · obtain ⟨o', e, he, h2⟩ := fin_bad _ hok
      have := h2 [] []
      rw [List.append_nil] at this
      rw [this] at h
      injection h with _ h
      injection h with _ h
      exact absurd h he
/-- What Parse answers, by cases. -/
theorem parse_cases (s : List UInt8) : (∃ o e, e ≠ 0 ∧ toksF s = ([], o, e) ∧ parseF s = ([], o, e)) ∨ (∃ u, toksF s = (u, 0, 0) ∧ ∃ r, allP u = .error r ∧ parseF s = ([], offE s.length r, 4)) ∨ (∃ u, toksF s = (u, 0, 0) ∧ ∃ cs, allP u = .ok (cs, []) ∧ parseF s = (cs, 0, 0)) := by
  have key : (∃ o e, e ≠ 0 ∧ toksF s = ([], o, e)) ∨ ∃ u, toksF s = (u, 0, 0) := by
    unfold toksF
    by_cases hl : 4096 < s.length
    · rw [if_pos hl]; exact .inl ⟨_, _, by decide, rfl⟩
    · rw [if_neg hl]
      by_cases hok : okI (items 0 s)
      · rw [fin_ok _ _ hok]; exact .inr ⟨_, rfl⟩
      · obtain ⟨o', e, he, h2⟩ := fin_bad _ hok
        have := h2 [] []
        rw [List.append_nil] at this
        exact .inl ⟨o', e, he, this⟩
  rcases key with ⟨o, e, he, ht⟩ | ⟨u, ht⟩
  · refine .inl ⟨o, e, he, ht, ?_⟩
    unfold parseF
    rw [ht]
    show (if e ≠ 0 then _ else _) = _
    rw [if_pos he]
  · have hp : parseF s = (match allP u with | .error r => ([], offE s.length r, 4) | .ok (cs, _) => (cs, 0, 0)) := by
      unfold parseF
      rw [ht]
      show (if (0 : Nat) ≠ 0 then _ else _) = _
      rw [if_neg (by simp)]
      rfl
    rcases ha : allP u with r | ⟨cs, r⟩
    · rw [ha] at hp
      exact .inr (.inl ⟨u, ht, r, ha, hp⟩)
    · have := allP_ok_nil ha
      subst this
      rw [ha] at hp
      exact .inr (.inr ⟨u, ht, cs, ha, hp⟩)
/-- The law of what is fixed. -/
theorem fixed {s : List UInt8} {l : List Cl} {o : Int} (h : parseF s = (l, o, 0)) : (∀ c ∈ l, formT c) ∧ (printC l = ([], 3) ∨ ∃ t m, printC l = (t, 0) ∧ parseF t = (m, 0, 0) ∧ stripL m = stripL l ∧ printC m = (t, 0)) := by
  rcases parse_cases s with ⟨o', e, he, _, hp⟩ | ⟨u, _, r, _, hp⟩ | ⟨u, ht, cs, ha, hp⟩
  · rw [hp] at h
    injection h with _ h
    injection h with _ h
    exact absurd h he
  · rw [hp] at h
    injection h with _ h
    injection h with _ h
    cases h
  · rw [hp] at h
    injection h with h _
    subst h
    have hf := allP_form _ (Nat.le_refl _) ha (toksF_right ht)
    refine ⟨hf, ?_⟩
    by_cases hl : 4096 < (textC cs).length
    · left
      unfold printC
      rw [if_pos hf, if_pos hl]
    · right
      have hpr : printC cs = (textC cs, 0) := by unfold printC; rw [if_pos hf, if_neg hl]
      obtain ⟨m, h1, h2⟩ := round hpr
      exact ⟨_, m, hpr, h1, h2, (printC_alike h2).trans hpr⟩
end Go.Proofs.YtganlldidjbpiaaGreatDoor

namespace Go.Proofs.YtganlldidjbpiaaGreatDoor
open Go

/-- A token moved by k. -/
def sh (k : Int) (t : Tok) : Tok := t.at_ (t.off + k)
mutual
/-- A clause moved by k. -/
def shC (k : Int) : Cl → Cl
  | .mk kd n d i a b l o => .mk kd n d i a b (shL k l) (o + k)
def shL (k : Int) : List Cl → List Cl
  | [] => []
  | c :: l => shC k c :: shL k l
end
def mapPR {α β : Type} (k : Int) (g : α → β) (x : PR α) : PR β := match x with
  | .error r => .error (r.map (sh k))
  | .ok (a, r) => .ok (g a, r.map (sh k))
section
variable {k : Int}
theorem andP_map {α α' β β' : Type} {x' : PR α'} {x : PR α} {f' : α' → List Tok → PR β'} {f : α → List Tok → PR β} {g : α → α'} {h : β → β'} (hx : x' = mapPR k g x) (hf : ∀ a r, f' (g a) (r.map (sh k)) = mapPR k h (f a r)) : andP x' f' = mapPR k h (andP x f) := by
  subst hx
  rcases x with e | ⟨a, r⟩
  · rfl
  · exact hf a r
theorem nextP_map {cls : Tok → Bool} (hc : ∀ t, cls (sh k t) = cls t) (ts : List Tok) : nextP cls (ts.map (sh k)) = mapPR k (sh k) (nextP cls ts) := by
  rcases ts with _ | ⟨t, ts⟩
  · rfl
  · rw [List.map_cons, nextP_at, nextP_at, hc]
    cases cls t <;> rfl
theorem wantP_map (s : List UInt8) (ts : List Tok) : wantP s (ts.map (sh k)) = mapPR k (sh k) (wantP s ts) := nextP_map (fun _ => rfl) ts
theorem nameP_map (ts : List Tok) : nameP (ts.map (sh k)) = mapPR k id (nameP ts) := andP_map (nextP_map (fun _ => rfl) ts) (fun _ _ => rfl)
theorem numP_map (ts : List Tok) : numP (ts.map (sh k)) = mapPR k id (numP ts) := andP_map (nextP_map (fun _ => rfl) ts) (fun _ _ => rfl)
theorem scopeP_map (ts : List Tok) : scopeP (ts.map (sh k)) = mapPR k id (scopeP ts) := andP_map (nextP_map (fun _ => rfl) ts) (fun _ _ => rfl)
theorem moreP_map : ∀ (n : Nat) (ts : List Tok), ts.length ≤ n → moreP (ts.map (sh k)) = mapPR k id (moreP ts) := by
  intro n
  induction n with
  | zero =>
    intro ts h
    obtain rfl : ts = [] := List.length_eq_zero_iff.1 (by omega)
    rfl
  | succ n ih =>
    intro ts h
    rcases ts with _ | ⟨a, _ | ⟨b, ts⟩⟩
    · rfl
    · show moreP [sh k a] = _
      rw [moreP, moreP]
      show (if a.text == sComma then _ else _) = _
      by_cases ha : (a.text == sComma) = true
      · rw [if_pos ha, if_pos ha]; rfl
      · rw [if_neg ha, if_neg ha]; rfl
    · show moreP (sh k a :: sh k b :: ts.map (sh k)) = _
      rw [moreP_at, moreP_at]
      show (if a.text == sComma then _ else _) = _
      by_cases ha : (a.text == sComma) = true
      · rw [if_pos ha, if_pos ha]
        show (if namedT b then _ else _) = _
        by_cases hb : namedT b = true
        · rw [if_pos hb, if_pos hb]
          exact andP_map (ih ts (by simp at h; omega)) (fun _ _ => rfl)
        · rw [if_neg hb, if_neg hb]; rfl
      · rw [if_neg ha, if_neg ha]; rfl
theorem bodyI_map (kd : Nat) (o : Int) (ts : List Tok) : bodyI kd (o + k) (ts.map (sh k)) = mapPR k (shC k) (bodyI kd o ts) := by
  unfold bodyI
  by_cases h9 : kd = 9
  · rw [if_pos h9, if_pos h9]
    exact andP_map (numP_map ts) fun a r => andP_map (wantP_map sPer r) fun _ r => andP_map (scopeP_map r) fun d r => rfl
  rw [if_neg h9, if_neg h9]
  by_cases h10 : kd = 10
  · rw [if_pos h10, if_pos h10]
    exact andP_map (nameP_map ts) fun n r => andP_map (moreP_map _ r (Nat.le_refl _)) fun l r => rfl
  rw [if_neg h10, if_neg h10]
  by_cases h11 : kd = 11
  · rw [if_pos h11, if_pos h11]
    exact andP_map (nameP_map ts) fun n r => andP_map (wantP_map sWithin r) fun _ r => andP_map (numP_map r) fun a r => rfl
  rw [if_neg h11, if_neg h11]
  exact andP_map (numP_map ts) fun a r => rfl
theorem semiP_map {x' x : PR Cl} (h : x' = mapPR k (shC k) x) : semiP x' = mapPR k (shC k) (semiP x) :=
  andP_map h fun c r => andP_map (wantP_map sSemi r) fun _ r => rfl
theorem itemP_map (ts : List Tok) : itemP (ts.map (sh k)) = mapPR k (shC k) (itemP ts) := by
  rcases ts with _ | ⟨t, ts⟩
  · rfl
  · rw [List.map_cons, itemP_at, itemP_at]
    show (if itemK t.text = 0 then _ else _) = _
    by_cases h : itemK t.text = 0
    · rw [if_pos h, if_pos h]; rfl
    · rw [if_neg h, if_neg h]
      exact semiP_map (bodyI_map (itemK t.text) t.off ts)
theorem itemsP_map : ∀ (n : Nat) (ts : List Tok), itemsP n (ts.map (sh k)) = mapPR k (shL k) (itemsP n ts)
  | 0, ts => rfl
  | n + 1, [] => rfl
  | n + 1, t :: ts => by
    rw [List.map_cons, itemsP_at, itemsP_at]
    show (if t.text == sClose then _ else _) = _
    by_cases h : (t.text == sClose) = true
    · rw [if_pos h, if_pos h]; rfl
    · rw [if_neg h, if_neg h]
      exact andP_map (itemP_map (t :: ts)) fun c r => andP_map (itemsP_map n r) fun l r => rfl
theorem bodyT_map (kd : Nat) (o : Int) (ts : List Tok) : bodyT kd (o + k) (ts.map (sh k)) = mapPR k (shC k) (bodyT kd o ts) := by
  unfold bodyT
  by_cases h1 : kd = 1
  · rw [if_pos h1, if_pos h1]
    exact andP_map (nameP_map ts) fun n r => andP_map (wantP_map sOpen r) fun _ r => andP_map (by rw [List.length_map]; exact itemsP_map _ r) fun l r => rfl
  rw [if_neg h1, if_neg h1]
  by_cases h2 : kd = 2
  · rw [if_pos h2, if_pos h2]
    exact andP_map (scopeP_map ts) fun d r => andP_map (numP_map r) fun i r => andP_map (wantP_map sFrom r) fun _ r => andP_map (numP_map r) fun a r => andP_map (wantP_map sTo r) fun _ r => andP_map (numP_map r) fun b r => rfl
  rw [if_neg h2, if_neg h2]
  by_cases h3 : kd = 3
  · rw [if_pos h3, if_pos h3]
    exact andP_map (scopeP_map ts) fun d r => andP_map (numP_map r) fun i r => rfl
  rw [if_neg h3, if_neg h3]
  by_cases h4 : kd = 4
  · rw [if_pos h4, if_pos h4]
    exact andP_map (numP_map ts) fun a r => rfl
  rw [if_neg h4, if_neg h4]
  exact andP_map (wantP_map sFeed ts) fun _ r => andP_map (numP_map r) fun i r => andP_map (wantP_map sAt r) fun _ r => andP_map (numP_map r) fun a r => rfl
theorem topP_map (ts : List Tok) : topP (ts.map (sh k)) = mapPR k (shC k) (topP ts) := by
  rcases ts with _ | ⟨t, ts⟩
  · rfl
  · rw [List.map_cons, topP_at, topP_at]
    show (if topK t.text = 0 then _ else _) = _
    by_cases h : topK t.text = 0
    · rw [if_pos h, if_pos h]; rfl
    · rw [if_neg h, if_neg h]
      show tailT (topK t.text) (t.off + k) (ts.map (sh k)) = mapPR k (shC k) (tailT (topK t.text) t.off ts)
      unfold tailT
      by_cases h1 : topK t.text = 1
      · rw [if_pos h1, if_pos h1]; exact bodyT_map 1 t.off ts
      · rw [if_neg h1, if_neg h1]; exact semiP_map (bodyT_map _ t.off ts)
theorem allP_map : ∀ (n : Nat) (ts : List Tok), ts.length ≤ n → allP (ts.map (sh k)) = mapPR k (shL k) (allP ts) := by
  intro n
  induction n with
  | zero =>
    intro ts h
    obtain rfl : ts = [] := List.length_eq_zero_iff.1 (by omega)
    rfl
  | succ n ih =>
    intro ts h
    rcases ts with _ | ⟨t, ts⟩
    · rfl
    · rw [allP_cons]
      have hm : allP ((t :: ts).map (sh k)) = andP (topP ((t :: ts).map (sh k))) fun c r => andP (allP r) fun l r => .ok (c :: l, r) := allP_cons _ _
      rw [hm, topP_map]
      rcases hp : topP (t :: ts) with e | ⟨c, r⟩
      · rfl
      · have hl := topP_len hp
        show (andP (allP (r.map (sh k))) fun l r => (.ok (shC k c :: l, r) : PR (List Cl))) = mapPR k (shL k) (andP (allP r) fun l r => .ok (c :: l, r))
        exact andP_map (ih r (by simp at h hl; omega)) fun l r => rfl
end
mutual
theorem strip_sh (k : Int) : ∀ c, strip (shC k c) = strip c
  | .mk kd ns d i a b l o => by rw [shC, strip, strip, stripL_sh k l]
theorem stripL_sh (k : Int) : ∀ l, stripL (shL k l) = stripL l
  | [] => rfl
  | c :: l => by rw [shL, stripL, stripL, strip_sh k c, stripL_sh k l]
end
theorem shL_len (k : Int) : ∀ l, (shL k l).length = l.length
  | [] => rfl
  | c :: l => by rw [shL, List.length_cons, shL_len k l]; rfl
theorem shL_off (k : Int) : ∀ l : List Cl, (shL k l).map Cl.off = l.map fun c => c.off + k
  | [] => rfl
  | c :: l => by
    rw [shL, List.map_cons, List.map_cons, shL_off k l]
    obtain ⟨kd, ns, d, i, a, b, l', o⟩ := c
    rw [shC]; rfl
end Go.Proofs.YtganlldidjbpiaaGreatDoor

namespace Go.Proofs.YtganlldidjbpiaaGreatDoor
open Go

theorem fin_moved (k : Int) : ∀ (l : List (Tok × Nat)) (acc acc' : List Tok), (fin l acc).2.2 ≠ 0 → fin (l.map fun x => (sh k x.1, x.2)) acc' = ([], (fin l acc).2.1 + k, (fin l acc).2.2)
  | [], acc, acc', h => absurd rfl h
  | (t, e) :: l, acc, acc', h => by
    rw [List.map_cons]
    show fin ((sh k t, e) :: l.map fun x => (sh k x.1, x.2)) acc' = _
    rw [fin, fin] at *
    by_cases he : e = 0
    · rw [if_pos he] at h ⊢
      rw [if_pos he]
      exact fin_moved k l _ _ h
    · rw [if_neg he, if_neg he]
      rfl
/-- The tokens of two texts. -/
theorem toks_apart (a b : List UInt8) (hl : ¬ 4096 < (a ++ 10 :: b).length) :
    (∀ u, toksF a = (u, 0, 0) → ∀ v, toksF b = (v, 0, 0) → toksF (a ++ 10 :: b) = (u ++ v.map (sh ((a.length + 1 : Nat) : Int)), 0, 0)) ∧
    (∀ u, toksF a = (u, 0, 0) → ∀ o e, e ≠ 0 → toksF b = ([], o, e) → toksF (a ++ 10 :: b) = ([], o + ((a.length + 1 : Nat) : Int), e)) ∧
    (∀ o e, e ≠ 0 → toksF a = ([], o, e) → toksF (a ++ 10 :: b) = ([], o, e)) := by
  have hla : ¬ 4096 < a.length := by rw [List.length_append] at hl; omega
  have hlb : ¬ 4096 < b.length := by rw [List.length_append, List.length_cons] at hl; omega
  obtain ⟨h1, h2⟩ := items_apart b 0 a
  have hs := items_shift (a.length + 1) 0 b
  have e0 : 0 + (a.length + 1) = 0 + a.length + 1 := by omega
  rw [e0] at hs
  have hs' : items (0 + a.length + 1) b = (items 0 b).map fun x => (sh ((a.length + 1 : Nat) : Int) x.1, x.2) := hs
  have ta : toksF a = fin (items 0 a) [] := by unfold toksF; rw [if_neg hla]
  have tb : toksF b = fin (items 0 b) [] := by unfold toksF; rw [if_neg hlb]
  have tw : toksF (a ++ 10 :: b) = fin (items 0 (a ++ 10 :: b)) [] := by unfold toksF; rw [if_neg hl]
  have oka : ∀ u, toksF a = (u, 0, 0) → okI (items 0 a) ∧ u = (items 0 a).map Prod.fst := fun u hu => by
    rw [ta] at hu
    by_cases hok : okI (items 0 a)
    · rw [fin_ok _ _ hok] at hu
      injection hu with hu _
      exact ⟨hok, by rw [← hu]; simp⟩
    · obtain ⟨o', e, he, h⟩ := fin_bad _ hok
      have := h [] []
      rw [List.append_nil] at this
      rw [this] at hu
      injection hu with _ hu
      injection hu with _ hu
      exact absurd hu he
  refine ⟨fun u hu v hv => ?_, fun u hu o e he hv => ?_, fun o e he hu => ?_⟩
  · obtain ⟨hok, rfl⟩ := oka u hu
    rw [tb] at hv
    by_cases hokb : okI (items 0 b)
    · rw [fin_ok _ _ hokb] at hv
      injection hv with hv _
      rw [List.nil_append] at hv
      subst hv
      rw [tw, h1 hok, hs', fin_app _ _ _ hok, fin_ok]
      · simp [List.map_map, Function.comp_def]
      · intro x hx
        obtain ⟨y, hy, rfl⟩ := List.mem_map.1 hx
        exact hokb y hy
    · obtain ⟨o', e, he, h⟩ := fin_bad _ hokb
      have := h [] []
      rw [List.append_nil] at this
      rw [this] at hv
      injection hv with _ hv
      injection hv with _ hv
      exact absurd hv he
  · obtain ⟨hok, rfl⟩ := oka u hu
    rw [tb] at hv
    rw [tw, h1 hok, hs', fin_app _ _ _ hok, fin_moved _ _ [] _ (by rw [hv]; exact he), hv]
  · rw [ta] at hu
    have hn : ¬ okI (items 0 a) := fun hok => by
      rw [fin_ok _ _ hok] at hu
      injection hu with _ hu
      injection hu with _ hu
      exact he hu.symm
    rw [tw, h2 hn, hu]
theorem parse_toks {s : List UInt8} {u : List Tok} (h : toksF s = (u, 0, 0)) : parseF s = (match allP u with | .error r => ([], offE s.length r, 4) | .ok (cs, _) => (cs, 0, 0)) := by
  unfold parseF
  rw [h]
  show (if (0 : Nat) ≠ 0 then _ else _) = _
  rw [if_neg (by simp)]
  rfl
theorem parse_bad {s : List UInt8} {o : Int} {e : Nat} (h : toksF s = ([], o, e)) (he : e ≠ 0) : parseF s = ([], o, e) := by
  unfold parseF
  rw [h]
  show (if e ≠ 0 then _ else _) = _
  rw [if_pos he]
theorem parse_err {s : List UInt8} {u r : List Tok} (h : toksF s = (u, 0, 0)) (ha : allP u = .error r) : parseF s = ([], offE s.length r, 4) := by
  rw [parse_toks h, ha]
theorem parse_ok {s : List UInt8} {u r : List Tok} {cs : List Cl} (h : toksF s = (u, 0, 0)) (ha : allP u = .ok (cs, r)) : parseF s = (cs, 0, 0) := by
  rw [parse_toks h, ha]
/-- The law of two texts: when the second one has an error, when none has. -/
theorem joins_ok {a b : List UInt8} (hl : ¬ 4096 < (a ++ 10 :: b).length) {l : List Cl} {o : Int} (ha : parseF a = (l, o, 0)) :
    (∀ m p e, e ≠ 0 → parseF b = (m, p, e) → parseF (a ++ 10 :: b) = ([], p + ((a.length + 1 : Nat) : Int), e)) ∧
    (∀ m p, parseF b = (m, p, 0) → (toksF b).2.2 = 0 ∧ parseF (a ++ 10 :: b) = (l ++ shL ((a.length + 1 : Nat) : Int) m, 0, 0)) := by
  obtain ⟨t1, t2, _⟩ := toks_apart a b hl
  rcases parse_cases a with ⟨_, e, he, _, hp⟩ | ⟨_, _, _, _, hp⟩ | ⟨u, hu, cs, hcs, hp⟩
  · rw [hp] at ha; injection ha with _ ha; injection ha with _ ha; exact absurd ha he
  · rw [hp] at ha; injection ha with _ ha; injection ha with _ ha; cases ha
  rw [hp] at ha
  injection ha with ha _
  subst ha
  have hlen : (((a ++ 10 :: b).length : Nat) : Int) = (b.length : Int) + ((a.length + 1 : Nat) : Int) := by rw [List.length_append, List.length_cons]; omega
  rcases parse_cases b with ⟨o', e, he, hb, hq⟩ | ⟨v, hv, r, hr, hq⟩ | ⟨v, hv, ds, hds, hq⟩
  · refine ⟨fun m p e' _ h => ?_, fun m p h => ?_⟩
    · rw [hq] at h
      injection h with h1 h
      injection h with h2 h3
      subst h2 h3
      exact parse_bad (t2 u hu _ _ he hb) he
    · rw [hq] at h; injection h with _ h; injection h with _ h; exact absurd h he
  · have hm : allP (u ++ v.map (sh ((a.length + 1 : Nat) : Int))) = .error (r.map (sh ((a.length + 1 : Nat) : Int))) := by
      rw [allP_app hcs, allP_map _ v (Nat.le_refl _), hr]; rfl
    refine ⟨fun m p e' _ h => ?_, fun m p h => ?_⟩
    · rw [hq] at h
      injection h with h1 h
      injection h with h2 h3
      subst h2 h3
      rw [parse_err (t1 u hu v hv) hm, hlen]
      cases r with
      | nil => rfl
      | cons t r => rfl
    · rw [hq] at h; injection h with _ h; injection h with _ h; cases h
  · have hm : allP (u ++ v.map (sh ((a.length + 1 : Nat) : Int))) = .ok (cs ++ shL ((a.length + 1 : Nat) : Int) ds, []) := by
      rw [allP_app hcs, allP_map _ v (Nat.le_refl _), hds]; rfl
    refine ⟨fun m p e' he h => ?_, fun m p h => ?_⟩
    · rw [hq] at h; injection h with _ h; injection h with _ h; exact absurd h.symm he
    · rw [hq] at h
      injection h with h _
      subst h
      exact ⟨by rw [hv], parse_ok (t1 u hu v hv) hm⟩
/-- .. when the first one has one. -/
theorem joins_err {a b : List UInt8} (hl : ¬ 4096 < (a ++ 10 :: b).length) {l : List Cl} {o : Int} {e : Nat} (he : e ≠ 0) (ha : parseF a = (l, o, e)) : (a.length : Int) ≤ o ∨ ((parseF (a ++ 10 :: b)).2.2 ≠ 0 ∧ (parseF (a ++ 10 :: b)).1 = []) := by
  obtain ⟨t1, t2, t3⟩ := toks_apart a b hl
  rcases parse_cases a with ⟨o', e', he', hu, hp⟩ | ⟨u, hu, r, hr, hp⟩ | ⟨u, hu, cs, hcs, hp⟩
  · right
    rw [parse_bad (t3 o' e' he' hu) he']
    exact ⟨he', rfl⟩
  · rw [hp] at ha
    injection ha with _ ha
    injection ha with ha _
    subst ha
    rcases r with _ | ⟨t, r⟩
    · exact .inl (Int.le_refl _)
    · right
      obtain ⟨w, hw, hall⟩ := allP_err hr
      rcases parse_cases b with ⟨o', e', he', hb, _⟩ | ⟨v, hv, _⟩ | ⟨v, hv, _⟩
      · rw [parse_bad (t2 u hu _ _ he' hb) he']
        exact ⟨he', rfl⟩
      · have hx : u ++ v.map (sh ((a.length + 1 : Nat) : Int)) = w ++ t :: (r ++ v.map (sh ((a.length + 1 : Nat) : Int))) := by rw [hw, List.append_assoc]; rfl
        have h2 := hall (r ++ v.map (sh ((a.length + 1 : Nat) : Int)))
        rw [← hx] at h2
        rw [parse_err (t1 u hu v hv) h2]
        exact ⟨by simp, rfl⟩
      · have hx : u ++ v.map (sh ((a.length + 1 : Nat) : Int)) = w ++ t :: (r ++ v.map (sh ((a.length + 1 : Nat) : Int))) := by rw [hw, List.append_assoc]; rfl
        have h2 := hall (r ++ v.map (sh ((a.length + 1 : Nat) : Int)))
        rw [← hx] at h2
        rw [parse_err (t1 u hu v hv) h2]
        exact ⟨by simp, rfl⟩
  · rw [hp] at ha
    injection ha with _ ha
    injection ha with _ ha
    exact absurd ha.symm he
end Go.Proofs.YtganlldidjbpiaaGreatDoor

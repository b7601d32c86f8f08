/- Syntax, plain: what is read can be printed; what is printed hangs on no offset; shifted tokens. No program in it.
   Syntax, plain: what is printed hangs on no offset; tokens that are moved. No program in it. -/
import Derived.Test.YtganlldidjbpiaaGreatDoorK03
import Derived.Test.YtganlldidjbpiaaGreatDoorK04
set_option linter.unusedVariables false
namespace Go.Proofs.YtganlldidjbpiaaGreatDoor
open Go

theorem numP_ok {ts : List Tok} {v : Int} {r : List Tok} (e : numP ts = .ok (v, r)) (hr : ∀ t ∈ ts, rightT t) : okNum v := by
  obtain ⟨t, h1, _, rfl⟩ := numP_len e
  exact right_num (hr t (by rw [h1]; simp)) (fst1_num _)
theorem nameP_ok {ts : List Tok} {v : List UInt8} {r : List Tok} (e : nameP ts = .ok (v, r)) (hr : ∀ t ∈ ts, rightT t) : okName v := by
  obtain ⟨t, h1, h2, rfl⟩ := nameP_len e
  exact right_name (hr t (by rw [h1]; simp)) h2
theorem scopeP_ok {ts : List Tok} {v : Nat} {r : List Tok} (e : scopeP ts = .ok (v, r)) : okDom v := by
  obtain ⟨t, _, h2, rfl⟩ := scopeP_len e
  exact scope_ok (by unfold scopedT at h2; simpa using h2)
theorem numP_suf {ts : List Tok} {v : Int} {r : List Tok} (e : numP ts = .ok (v, r)) {P : Tok → Prop} (hr : ∀ t ∈ ts, P t) : ∀ t ∈ r, P t := by
  obtain ⟨t, h1, _⟩ := numP_len e
  exact fun x hx => hr x (by rw [h1]; simp [hx])
theorem nameP_suf {ts : List Tok} {v : List UInt8} {r : List Tok} (e : nameP ts = .ok (v, r)) {P : Tok → Prop} (hr : ∀ t ∈ ts, P t) : ∀ t ∈ r, P t := by
  obtain ⟨t, h1, _⟩ := nameP_len e
  exact fun x hx => hr x (by rw [h1]; simp [hx])
theorem scopeP_suf {ts : List Tok} {v : Nat} {r : List Tok} (e : scopeP ts = .ok (v, r)) {P : Tok → Prop} (hr : ∀ t ∈ ts, P t) : ∀ t ∈ r, P t := by
  obtain ⟨t, h1, _⟩ := scopeP_len e
  exact fun x hx => hr x (by rw [h1]; simp [hx])
theorem wantP_suf {s : List UInt8} {ts : List Tok} {v : Tok} {r : List Tok} (e : wantP s ts = .ok (v, r)) {P : Tok → Prop} (hr : ∀ t ∈ ts, P t) : ∀ t ∈ r, P t := by
  obtain ⟨h1, _⟩ := wantP_len e
  exact fun x hx => hr x (by rw [h1]; simp [hx])
theorem moreP_ok : ∀ (n : Nat) {ts : List Tok} {l : List (List UInt8)} {r : List Tok}, ts.length ≤ n → moreP ts = .ok (l, r) → (∀ t ∈ ts, rightT t) → ∀ m ∈ l, okName m := by
  intro n
  induction n with
  | zero =>
    intro ts l r hn e _
    obtain rfl : ts = [] := List.length_eq_zero_iff.1 (by omega)
    injection e with e
    injection e with e _
    subst e
    simp
  | succ n ih =>
    intro ts l r hn e hr
    rcases ts with _ | ⟨a, _ | ⟨b, ts⟩⟩
    · injection e with e
      injection e with e _
      subst e
      simp
    · by_cases ha : (a.text == sComma) = true
      · rw [moreP, if_pos ha] at e; cases e
      · rw [moreP, if_neg ha] at e
        injection e with e
        injection e with e _
        subst e
        simp
    · rw [moreP_at] at e
      by_cases ha : (a.text == sComma) = true
      · rw [if_pos ha] at e
        by_cases hb : namedT b = true
        · rw [if_pos hb] at e
          obtain ⟨l', r1, h1, h2⟩ := andP_ok e
          injection h2 with h2
          injection h2 with h2 _
          subst h2
          intro m hm
          rcases List.mem_cons.1 hm with rfl | hm
          · exact right_name (hr b (by simp)) hb
          · exact ih (by simp at hn; omega) h1 (fun t ht => hr t (by simp [ht])) m hm
        · rw [if_neg hb] at e; cases e
      · rw [if_neg ha] at e
        injection e with e
        injection e with e _
        subst e
        simp
theorem itemK_range {s : List UInt8} (h : itemK s ≠ 0) : 6 ≤ itemK s ∧ itemK s ≤ 12 := by
  unfold itemK at *
  repeat' split
  all_goals first | omega | (simp_all)
theorem topK_range {s : List UInt8} (h : topK s ≠ 0) : 1 ≤ topK s ∧ topK s ≤ 5 := by
  unfold topK at *
  repeat' split
  all_goals first | omega | (simp_all)
/-- What is read as an item can be printed. -/
theorem itemP_form {ts : List Tok} {c : Cl} {r : List Tok} (e : itemP ts = .ok (c, r)) (hr : ∀ t ∈ ts, rightT t) : formI c := by
  rcases ts with _ | ⟨t, ts⟩
  · cases e
  rw [itemP_at] at e
  by_cases hk : itemK t.text = 0
  · rw [if_pos hk] at e; cases e
  rw [if_neg hk] at e
  obtain ⟨hk1, hk2⟩ := itemK_range hk
  generalize itemK t.text = k at e hk1 hk2
  obtain ⟨c', r1, h1, h2⟩ := andP_ok e
  obtain ⟨_, r2, _, h3⟩ := andP_ok h2
  injection h3 with h3
  injection h3 with h3 _
  subst h3
  have hr' : ∀ x ∈ ts, rightT x := fun x hx => hr x (by simp [hx])
  unfold bodyI at h1
  by_cases h9 : k = 9
  · rw [if_pos h9] at h1
    obtain ⟨a, q1, e1, h1⟩ := andP_ok h1
    obtain ⟨_, q2, e2, h1⟩ := andP_ok h1
    obtain ⟨d, q3, e3, h1⟩ := andP_ok h1
    injection h1 with h1
    injection h1 with h1 _
    subst h1
    exact ⟨⟨Nat.le_of_ble_eq_true rfl, Nat.le_of_ble_eq_true rfl⟩, rfl, rfl, numP_ok e1 hr', scopeP_ok e3, rfl, by intro m hm; simp [Cl.names] at hm, rfl⟩
  rw [if_neg h9] at h1
  by_cases h10 : k = 10
  · rw [if_pos h10] at h1
    obtain ⟨n, q1, e1, h1⟩ := andP_ok h1
    obtain ⟨l, q2, e2, h1⟩ := andP_ok h1
    injection h1 with h1
    injection h1 with h1 _
    subst h1
    refine ⟨⟨Nat.le_of_ble_eq_true rfl, Nat.le_of_ble_eq_true rfl⟩, rfl, rfl, rfl, rfl, ?_, ?_, rfl⟩
    · show n :: l ≠ []
      simp
    · intro m hm
      rcases List.mem_cons.1 hm with rfl | hm
      · exact nameP_ok e1 hr'
      · exact moreP_ok _ (Nat.le_refl _) e2 (nameP_suf e1 hr') m hm
  rw [if_neg h10] at h1
  by_cases h11 : k = 11
  · rw [if_pos h11] at h1
    obtain ⟨n, q1, e1, h1⟩ := andP_ok h1
    obtain ⟨_, q2, e2, h1⟩ := andP_ok h1
    obtain ⟨a, q3, e3, h1⟩ := andP_ok h1
    injection h1 with h1
    injection h1 with h1 _
    subst h1
    refine ⟨⟨Nat.le_of_ble_eq_true rfl, Nat.le_of_ble_eq_true rfl⟩, rfl, rfl, numP_ok e3 (wantP_suf e2 (nameP_suf e1 hr')), rfl, rfl, ?_, rfl⟩
    intro m hm
    obtain rfl : m = n := by simpa [Cl.names] using hm
    exact nameP_ok e1 hr'
  rw [if_neg h11] at h1
  obtain ⟨a, q1, e1, h1⟩ := andP_ok h1
  injection h1 with h1
  injection h1 with h1 _
  subst h1
  refine ⟨⟨hk1, hk2⟩, rfl, rfl, ?_, ?_, ?_, by intro m hm; simp [Cl.names] at hm, rfl⟩
  · show if k = 10 then a = 0 else okNum a
    rw [if_neg h10]; exact numP_ok e1 hr'
  · show if k = 9 then okDom 0 else (0 : Nat) = 0
    rw [if_neg h9]
  · show if k = 10 then ([] : List (List UInt8)) ≠ [] else if k = 11 then ([] : List (List UInt8)).length = 1 else ([] : List (List UInt8)) = []
    rw [if_neg h10, if_neg h11]
theorem itemP_suf {ts : List Tok} {c : Cl} {r : List Tok} (e : itemP ts = .ok (c, r)) {P : Tok → Prop} (hr : ∀ t ∈ ts, P t) : ∀ t ∈ r, P t := by
  obtain ⟨u, h1, _⟩ := itemP_shut.ok ts c r e
  exact fun x hx => hr x (by rw [h1]; simp [hx])
theorem itemsP_form : ∀ (n : Nat) {ts : List Tok} {l : List Cl} {r : List Tok}, itemsP n ts = .ok (l, r) → (∀ t ∈ ts, rightT t) → ∀ c ∈ l, formI c := by
  intro n
  induction n with
  | zero => intro ts l r e; cases e
  | succ n ih =>
    intro ts l r e hr
    rcases ts with _ | ⟨t, ts⟩
    · cases e
    rw [itemsP_at] at e
    by_cases hc : (t.text == sClose) = true
    · rw [if_pos hc] at e
      injection e with e
      injection e with e _
      subst e
      simp
    · rw [if_neg hc] at e
      obtain ⟨c, r1, h1, h2⟩ := andP_ok e
      obtain ⟨l', r2, h3, h4⟩ := andP_ok h2
      injection h4 with h4
      injection h4 with h4 _
      subst h4
      intro d hd
      rcases List.mem_cons.1 hd with rfl | hd
      · exact itemP_form h1 hr
      · exact ih h3 (itemP_suf h1 hr) d hd
/-- What is read as a clause can be printed. -/
theorem topP_form {ts : List Tok} {c : Cl} {r : List Tok} (e : topP ts = .ok (c, r)) (hr : ∀ t ∈ ts, rightT t) : formT c := by
  rcases ts with _ | ⟨t, ts⟩
  · cases e
  rw [topP_at] at e
  by_cases hk : topK t.text = 0
  · rw [if_pos hk] at e; cases e
  rw [if_neg hk] at e
  obtain ⟨hk1, hk2⟩ := topK_range hk
  generalize topK t.text = k at e hk1 hk2
  have hr' : ∀ x ∈ ts, rightT x := fun x hx => hr x (by simp [hx])
  have hk' : k = 1 ∨ k = 2 ∨ k = 3 ∨ k = 4 ∨ k = 5 := by omega
  rcases hk' with rfl | rfl | rfl | rfl | rfl
  · have h1 : bodyT 1 t.off ts = .ok (c, r) := e
    unfold bodyT at h1
    rw [if_pos rfl] at h1
    obtain ⟨n, q1, e1, h1⟩ := andP_ok h1
    obtain ⟨_, q2, e2, h1⟩ := andP_ok h1
    obtain ⟨l, q3, e3, h1⟩ := andP_ok h1
    injection h1 with h1
    injection h1 with h1 _
    subst h1
    refine ⟨⟨Nat.le_of_ble_eq_true rfl, Nat.le_of_ble_eq_true rfl⟩, rfl, rfl, rfl, rfl, rfl, ?_, ?_⟩
    · intro m hm
      obtain rfl : m = n := by simpa [Cl.names] using hm
      exact nameP_ok e1 hr'
    · exact itemsP_form _ e3 (wantP_suf e2 (nameP_suf e1 hr'))
  · obtain ⟨c', r1, h1, h2⟩ := andP_ok (show semiP (bodyT 2 t.off ts) = .ok (c, r) from e)
    obtain ⟨_, r2, _, h3⟩ := andP_ok h2
    injection h3 with h3
    injection h3 with h3 _
    subst h3
    unfold bodyT at h1
    rw [if_neg (by decide), if_pos rfl] at h1
    obtain ⟨d, q1, e1, h1⟩ := andP_ok h1
    obtain ⟨i, q2, e2, h1⟩ := andP_ok h1
    obtain ⟨_, q3, e3, h1⟩ := andP_ok h1
    obtain ⟨a, q4, e4, h1⟩ := andP_ok h1
    obtain ⟨_, q5, e5, h1⟩ := andP_ok h1
    obtain ⟨b, q6, e6, h1⟩ := andP_ok h1
    injection h1 with h1
    injection h1 with h1 _
    subst h1
    have s1 := scopeP_suf e1 hr'
    have s2 := numP_suf e2 s1
    have s3 := wantP_suf e3 s2
    have s4 := numP_suf e4 s3
    have s5 := wantP_suf e5 s4
    exact ⟨⟨Nat.le_of_ble_eq_true rfl, Nat.le_of_ble_eq_true rfl⟩, numP_ok e2 s1, numP_ok e4 s3, numP_ok e6 s5, scopeP_ok e1, rfl, by intro m hm; simp [Cl.names] at hm, rfl⟩
  · obtain ⟨c', r1, h1, h2⟩ := andP_ok (show semiP (bodyT 3 t.off ts) = .ok (c, r) from e)
    obtain ⟨_, r2, _, h3⟩ := andP_ok h2
    injection h3 with h3
    injection h3 with h3 _
    subst h3
    unfold bodyT at h1
    rw [if_neg (by decide), if_neg (by decide), if_pos rfl] at h1
    obtain ⟨d, q1, e1, h1⟩ := andP_ok h1
    obtain ⟨i, q2, e2, h1⟩ := andP_ok h1
    injection h1 with h1
    injection h1 with h1 _
    subst h1
    exact ⟨⟨Nat.le_of_ble_eq_true rfl, Nat.le_of_ble_eq_true rfl⟩, numP_ok e2 (scopeP_suf e1 hr'), rfl, rfl, scopeP_ok e1, rfl, by intro m hm; simp [Cl.names] at hm, rfl⟩
  · obtain ⟨c', r1, h1, h2⟩ := andP_ok (show semiP (bodyT 4 t.off ts) = .ok (c, r) from e)
    obtain ⟨_, r2, _, h3⟩ := andP_ok h2
    injection h3 with h3
    injection h3 with h3 _
    subst h3
    unfold bodyT at h1
    rw [if_neg (by decide), if_neg (by decide), if_neg (by decide), if_pos rfl] at h1
    obtain ⟨a, q1, e1, h1⟩ := andP_ok h1
    injection h1 with h1
    injection h1 with h1 _
    subst h1
    exact ⟨⟨Nat.le_of_ble_eq_true rfl, Nat.le_of_ble_eq_true rfl⟩, rfl, numP_ok e1 hr', rfl, rfl, rfl, by intro m hm; simp [Cl.names] at hm, rfl⟩
  · obtain ⟨c', r1, h1, h2⟩ := andP_ok (show semiP (bodyT 5 t.off ts) = .ok (c, r) from e)
    obtain ⟨_, r2, _, h3⟩ := andP_ok h2
    injection h3 with h3
    injection h3 with h3 _
    subst h3
    unfold bodyT at h1
    rw [if_neg (by decide), if_neg (by decide), if_neg (by decide), if_neg (by decide)] at h1
    obtain ⟨_, q1, e1, h1⟩ := andP_ok h1
    obtain ⟨i, q2, e2, h1⟩ := andP_ok h1
    obtain ⟨_, q3, e3, h1⟩ := andP_ok h1
    obtain ⟨a, q4, e4, h1⟩ := andP_ok h1
    injection h1 with h1
    injection h1 with h1 _
    subst h1
    have s1 := wantP_suf e1 hr'
    have s2 := numP_suf e2 s1
    have s3 := wantP_suf e3 s2
    exact ⟨⟨Nat.le_of_ble_eq_true rfl, Nat.le_of_ble_eq_true rfl⟩, numP_ok e2 s1, numP_ok e4 s3, rfl, rfl, rfl, by intro m hm; simp [Cl.names] at hm, rfl⟩
theorem topP_suf {ts : List Tok} {c : Cl} {r : List Tok} (e : topP ts = .ok (c, r)) {P : Tok → Prop} (hr : ∀ t ∈ ts, P t) : ∀ t ∈ r, P t := by
  obtain ⟨u, h1, _⟩ := topP_shut.ok ts c r e
  exact fun x hx => hr x (by rw [h1]; simp [hx])
theorem allP_form : ∀ (n : Nat) {ts : List Tok} {l : List Cl} {r : List Tok}, ts.length ≤ n → allP ts = .ok (l, r) → (∀ t ∈ ts, rightT t) → ∀ c ∈ l, formT c := by
  intro n
  induction n with
  | zero =>
    intro ts l r hn e
    obtain rfl : ts = [] := List.length_eq_zero_iff.1 (by omega)
    injection e with e
    injection e with e _
    subst e
    simp
  | succ n ih =>
    intro ts l r hn e hr
    rcases ts with _ | ⟨t, ts⟩
    · injection e with e
      injection e with e _
      subst e
      simp
    rw [allP_cons] at e
    obtain ⟨c, r1, h1, h2⟩ := andP_ok e
    obtain ⟨l', r2, h3, h4⟩ := andP_ok h2
    injection h4 with h4
    injection h4 with h4 _
    subst h4
    have := topP_len h1
    intro d hd
    rcases List.mem_cons.1 hd with rfl | hd
    · exact topP_form h1 hr
    · exact ih (by simp at hn this; omega) h3 (topP_suf h1 hr) d hd
end Go.Proofs.YtganlldidjbpiaaGreatDoor

namespace Go.Proofs.YtganlldidjbpiaaGreatDoor
open Go

theorem Alike.parts {c d : Cl} (h : Alike c d) : c.kind = d.kind ∧ c.names = d.names ∧ c.dom = d.dom ∧ c.idx = d.idx ∧ c.a = d.a ∧ c.b = d.b ∧ stripL c.items = stripL d.items := by
  obtain ⟨k, n, dm, i, a, b, l, o⟩ := c
  obtain ⟨k', n', dm', i', a', b', l', o'⟩ := d
  unfold Alike at h
  rw [strip, strip] at h
  injection h with h1 h2 h3 h4 h5 h6 h7
  exact ⟨h1, h2, h3, h4, h5, h6, h7⟩
theorem textsI_alike {c d : Cl} (h : Alike c d) : textsI c = textsI d := by
  obtain ⟨h1, h2, h3, _, h5, _⟩ := h.parts
  unfold textsI
  rw [h1, h2, h3, h5]
theorem stripL_nil {l : List Cl} (h : stripL l = []) : l = [] := by
  cases l with
  | nil => rfl
  | cons c l => rw [stripL] at h; cases h
theorem stripL_cons {l m : List Cl} {c : Cl} (h : stripL (c :: l) = stripL m) : ∃ d m', m = d :: m' ∧ Alike c d ∧ stripL l = stripL m' := by
  cases m with
  | nil => rw [stripL, stripL] at h; cases h
  | cons d m' =>
    rw [stripL, stripL] at h
    injection h with h1 h2
    exact ⟨d, m', rfl, h1, h2⟩
theorem flatI_alike : ∀ {l m : List Cl}, stripL l = stripL m → l.flatMap textsI = m.flatMap textsI
  | [], m, h => by rw [stripL_nil (h.symm.trans (by rw [stripL]))]
  | c :: l, m, h => by
    obtain ⟨d, m', rfl, h1, h2⟩ := stripL_cons h
    rw [List.flatMap_cons, List.flatMap_cons, textsI_alike h1, flatI_alike h2]
theorem textsT_alike {c d : Cl} (h : Alike c d) : textsT c = textsT d := by
  obtain ⟨h1, h2, h3, h4, h5, h6, h7⟩ := h.parts
  unfold textsT
  rw [h1, h2, h3, h4, h5, h6, flatI_alike h7]
theorem flatT_alike : ∀ {l m : List Cl}, stripL l = stripL m → l.flatMap textsT = m.flatMap textsT
  | [], m, h => by rw [stripL_nil (h.symm.trans (by rw [stripL]))]
  | c :: l, m, h => by
    obtain ⟨d, m', rfl, h1, h2⟩ := stripL_cons h
    rw [List.flatMap_cons, List.flatMap_cons, textsT_alike h1, flatT_alike h2]
theorem formI_alike {c d : Cl} (h : Alike c d) (hc : formI c) : formI d := by
  obtain ⟨h1, h2, h3, h4, h5, h6, h7⟩ := h.parts
  obtain ⟨g1, g2, g3, g4, g5, g6, g7, g8⟩ := hc
  unfold formI
  rw [g8] at h7
  have h8 : d.items = [] := stripL_nil (h7.symm.trans (by rw [stripL]))
  rw [← h1, ← h2, ← h3, ← h4, ← h5, ← h6]
  exact ⟨g1, g2, g3, g4, g5, g6, g7, h8⟩
theorem formIL_alike : ∀ {l m : List Cl}, stripL l = stripL m → (∀ c ∈ l, formI c) → ∀ d ∈ m, formI d
  | [], m, h, _ => by rw [stripL_nil (h.symm.trans (by rw [stripL]))]; simp
  | c :: l, m, h, hc => by
    obtain ⟨d, m', rfl, h1, h2⟩ := stripL_cons h
    intro x hx
    rcases List.mem_cons.1 hx with rfl | hx
    · exact formI_alike h1 (hc c (by simp))
    · exact formIL_alike h2 (fun y hy => hc y (by simp [hy])) x hx
theorem formT_alike {c d : Cl} (h : Alike c d) (hc : formT c) : formT d := by
  obtain ⟨h1, h2, h3, h4, h5, h6, h7⟩ := h.parts
  obtain ⟨g1, g2, g3, g4, g5, g6, g7, g8⟩ := hc
  unfold formT
  rw [← h1, ← h2, ← h3, ← h4, ← h5, ← h6]
  refine ⟨g1, g2, g3, g4, g5, g6, g7, ?_⟩
  by_cases hk : c.kind = 1
  · rw [if_pos hk] at g8 ⊢
    exact formIL_alike h7 g8
  · rw [if_neg hk] at g8 ⊢
    rw [g8] at h7
    exact stripL_nil (h7.symm.trans (by rw [stripL]))
theorem formTL_alike : ∀ {l m : List Cl}, stripL l = stripL m → (∀ c ∈ l, formT c) → ∀ d ∈ m, formT d
  | [], m, h, _ => by rw [stripL_nil (h.symm.trans (by rw [stripL]))]; simp
  | c :: l, m, h, hc => by
    obtain ⟨d, m', rfl, h1, h2⟩ := stripL_cons h
    intro x hx
    rcases List.mem_cons.1 hx with rfl | hx
    · exact formT_alike h1 (hc c (by simp))
    · exact formTL_alike h2 (fun y hy => hc y (by simp [hy])) x hx
theorem printC_alike {l m : List Cl} (h : stripL l = stripL m) : printC l = printC m := by
  have e : textC l = textC m := by unfold textC; rw [flatT_alike h]
  unfold printC
  by_cases hl : ∀ c ∈ l, formT c
  · rw [if_pos hl, if_pos (formTL_alike h hl), e]
  · rw [if_neg hl, if_neg (fun hm => hl (formTL_alike h.symm hm))]
/-- The tokens of a text are right. -/
theorem toksF_right {s : List UInt8} {u : List Tok} {o : Int} (h : toksF s = (u, o, 0)) : ∀ t ∈ u, rightT t := by
  unfold toksF at h
  by_cases hl : 4096 < s.length
  · rw [if_pos hl] at h
    injection h with _ h
    injection h with _ h
    cases h
  · rw [if_neg hl] at h
    by_cases hok : okI (items 0 s)
    · rw [fin_ok _ _ hok] at h
      injection h with h _
      subst h
      intro t ht
      rw [List.nil_append] at ht
      obtain ⟨x, hx, rfl⟩ := List.mem_map.1 ht
      exact items_right 0 s x hx (hok x hx)
    · obtain ⟨o', e, he, h2⟩ := fin_bad _ hok
      have := h2 [] []
      rw [List.append_nil] at this
      rw [this] at h
      injection h with _ h
      injection h with _ h
      exact absurd h he
/-- What Parse answers, by cases. -/
theorem parse_cases (s : List UInt8) : (∃ o e, e ≠ 0 ∧ toksF s = ([], o, e) ∧ parseF s = ([], o, e)) ∨ (∃ u, toksF s = (u, 0, 0) ∧ ∃ r, allP u = .error r ∧ parseF s = ([], offE s.length r, 4)) ∨ (∃ u, toksF s = (u, 0, 0) ∧ ∃ cs, allP u = .ok (cs, []) ∧ parseF s = (cs, 0, 0)) := by
  have key : (∃ o e, e ≠ 0 ∧ toksF s = ([], o, e)) ∨ ∃ u, toksF s = (u, 0, 0) := by
    unfold toksF
    by_cases hl : 4096 < s.length
    · rw [if_pos hl]; exact .inl ⟨_, _, by decide, rfl⟩
    · rw [if_neg hl]
      by_cases hok : okI (items 0 s)
      · rw [fin_ok _ _ hok]; exact .inr ⟨_, rfl⟩
      · obtain ⟨o', e, he, h2⟩ := fin_bad _ hok
        have := h2 [] []
        rw [List.append_nil] at this
        exact .inl ⟨o', e, he, this⟩
  rcases key with ⟨o, e, he, ht⟩ | ⟨u, ht⟩
  · refine .inl ⟨o, e, he, ht, ?_⟩
    unfold parseF
    rw [ht]
    show (if e ≠ 0 then _ else _) = _
    rw [if_pos he]
  · have hp : parseF s = (match allP u with | .error r => ([], offE s.length r, 4) | .ok (cs, _) => (cs, 0, 0)) := by
      unfold parseF
      rw [ht]
      show (if (0 : Nat) ≠ 0 then _ else _) = _
      rw [if_neg (by simp)]
      rfl
    rcases ha : allP u with r | ⟨cs, r⟩
    · rw [ha] at hp
      exact .inr (.inl ⟨u, ht, r, ha, hp⟩)
    · have := allP_ok_nil ha
      subst this
      rw [ha] at hp
      exact .inr (.inr ⟨u, ht, cs, ha, hp⟩)
/-- The law of what is fixed. -/
theorem fixed {s : List UInt8} {l : List Cl} {o : Int} (h : parseF s = (l, o, 0)) : (∀ c ∈ l, formT c) ∧ (printC l = ([], 3) ∨ ∃ t m, printC l = (t, 0) ∧ parseF t = (m, 0, 0) ∧ stripL m = stripL l ∧ printC m = (t, 0)) := by
  rcases parse_cases s with ⟨o', e, he, _, hp⟩ | ⟨u, _, r, _, hp⟩ | ⟨u, ht, cs, ha, hp⟩
  · rw [hp] at h
    injection h with _ h
    injection h with _ h
    exact absurd h he
  · rw [hp] at h
    injection h with _ h
    injection h with _ h
    cases h
  · rw [hp] at h
    injection h with h _
    subst h
    have hf := allP_form _ (Nat.le_refl _) ha (toksF_right ht)
    refine ⟨hf, ?_⟩
    by_cases hl : 4096 < (textC cs).length
    · left
      unfold printC
      rw [if_pos hf, if_pos hl]
    · right
      have hpr : printC cs = (textC cs, 0) := by unfold printC; rw [if_pos hf, if_neg hl]
      obtain ⟨m, h1, h2⟩ := round hpr
      exact ⟨_, m, hpr, h1, h2, (printC_alike h2).trans hpr⟩
end Go.Proofs.YtganlldidjbpiaaGreatDoor

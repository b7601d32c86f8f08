/- Syntax, the reference: what a clause's reader yields, put together of its steps. -/
import Derived.Test.YtganlldidjbpiaaGreatDoorQSyU5
set_option linter.unusedVariables false
namespace Go.Proofs.YtganlldidjbpiaaGreatDoor
open Go.RowKit Go.Shelf

/-- The state behind a reader, and what it yielded if it yielded anything. -/
def IR {α : Type} (x : List Tok → PR α) (s : Except (List Tok) (List Tok)) (c : α) (s' : Except (List Tok) (List Tok)) : Prop := s' = goS x s ∧ ∀ c0, outS x s = some c0 → c = c0
theorem go_none {α : Type} {x : List Tok → PR α} {s : Except (List Tok) (List Tok)} (h : outS x s = none) : ∃ r, goS x s = .error r := by
  match s with
  | .error r => exact ⟨r, rfl⟩
  | .ok r =>
    unfold outS at h
    unfold goS
    rcases hx : x r with e | ⟨a, r1⟩
    · exact ⟨e, by simp only [hx]⟩
    · simp only [hx] at h
      cases h
theorem out_some {α : Type} {x : List Tok → PR α} {s : Except (List Tok) (List Tok)} {a : α} (h : outS x s = some a) : ∃ r r', s = .ok r ∧ x r = .ok (a, r') ∧ goS x s = .ok r' := by
  match s with
  | .error r => cases h
  | .ok r =>
    unfold outS at h
    rcases hx : x r with e | ⟨b, r1⟩
    · simp only [hx] at h; cases h
    · simp only [hx] at h
      injection h with h
      subst h
      exact ⟨r, r1, rfl, hx, by unfold goS; simp only [hx]⟩
theorem IR.pure {α : Type} (c : α) (s : Except (List Tok) (List Tok)) : IR (fun ts => .ok (c, ts)) s c s := by
  match s with
  | .error r => exact ⟨rfl, fun c0 h => by cases h⟩
  | .ok r => exact ⟨rfl, fun c0 h => by injection h⟩
theorem IR.step {α β : Type} {x : List Tok → PR α} {f : α → List Tok → PR β} {s s2 : Except (List Tok) (List Tok)} {c : α → β} (d : α) (h : ∀ a, IR (f a) (goS x s) (c a) s2) : IR (fun ts => andP (x ts) (f)) s (c ((outS x s).getD d)) s2 := by
  rcases ho : outS x s with _ | a
  · obtain ⟨r, hr⟩ := go_none ho
    have h1 := (h d).1
    rw [hr] at h1
    have h1 : s2 = .error r := h1
    match s with
    | .error r' =>
      have hr : (Except.error r' : Except (List Tok) (List Tok)) = .error r := hr
      injection hr with hr
      exact ⟨by rw [h1, ← hr]; rfl, fun c0 h => by cases h⟩
    | .ok r' =>
      rcases hx : x r' with e | ⟨b, r1⟩
      · have he : e = r := by
          unfold goS at hr
          simp only [hx] at hr
          injection hr
        refine ⟨by rw [h1]; unfold goS; simp only [hx, andP]; rw [he], fun c0 h => ?_⟩
        unfold outS at h
        simp only [hx, andP] at h
        cases h
      · unfold outS at ho
        simp only [hx] at ho
        cases ho
  · obtain ⟨r, r', rfl, hx, hg⟩ := out_some ho
    obtain ⟨h1, h2⟩ := h a
    rw [hg] at h1 h2
    refine ⟨?_, fun c0 h => ?_⟩
    · rw [h1]
      unfold goS
      simp only [hx, andP]
    · refine h2 c0 ?_
      rw [← h]
      unfold outS
      simp only [hx, andP]
theorem IR.semi {x : List Tok → PR Cl} {s s1 : Except (List Tok) (List Tok)} {c : Cl} (h : IR x s c s1) : IR (fun ts => semiP (x ts)) s c (goS (wantP sSemi) s1) := by
  obtain ⟨h1, h2⟩ := h
  have h3 : IR (fun ts => andP (x ts) fun c r => andP (wantP sSemi r) fun _ r => .ok (c, r)) s ((outS x s).getD c) (goS (wantP sSemi) s1) := by
    refine IR.step (c := fun a => a) c (fun a => ?_)
    rw [← h1]
    have h5 := IR.step (s := s1) (x := wantP sSemi) (f := fun _ r => (.ok (a, r) : PR Cl)) (s2 := goS (wantP sSemi) s1) (c := fun _ => a) ⟨0, [], 0, 0⟩ (fun _ => IR.pure a _)
    exact h5
  refine ⟨h3.1, fun c0 h => ?_⟩
  have h4 := h3.2 c0 h
  rcases ho : outS x s with _ | a
  · rw [ho] at h4; exact h4
  · rw [ho] at h4
    rw [h2 a ho]; exact h4
theorem IR.congr {α : Type} {x y : List Tok → PR α} {s s' : Except (List Tok) (List Tok)} {c : α} (h : IR x s c s') (e : ∀ r, x r = y r) : IR y s c s' := by
  have : x = y := funext e
  rw [← this]; exact h
/-- The token before. -/
theorem IR.item {t : Tok} {r : List Tok} {c : Cl} {s' : Except (List Tok) (List Tok)} {k : Nat} (hk : itemK t.text = k) (h0 : k ≠ 0) (h : IR (fun ts => semiP (bodyI k t.off ts)) (.ok r) c s') : IR itemP (.ok (t :: r)) c s' := by
  have e : itemP (t :: r) = semiP (bodyI k t.off r) := by rw [itemP_at, hk, if_neg h0]
  obtain ⟨h1, h2⟩ := h
  refine ⟨?_, fun c0 h => h2 c0 ?_⟩
  · rw [h1]; unfold goS; simp only [e]
  · rw [← h]; unfold outS; simp only [e]
theorem IR.top {t : Tok} {r : List Tok} {c : Cl} {s' : Except (List Tok) (List Tok)} {k : Nat} (hk : topK t.text = k) (h0 : k ≠ 0) (h1 : k ≠ 1) (h : IR (fun ts => semiP (bodyT k t.off ts)) (.ok r) c s') : IR topP (.ok (t :: r)) c s' := by
  have e : topP (t :: r) = semiP (bodyT k t.off r) := by rw [topP_at, hk, if_neg h0]; unfold tailT; rw [if_neg h1]
  obtain ⟨h1, h2⟩ := h
  refine ⟨?_, fun c0 h => h2 c0 ?_⟩
  · rw [h1]; unfold goS; simp only [e]
  · rw [← h]; unfold outS; simp only [e]
theorem IR.service {t : Tok} {r : List Tok} {c : Cl} {s' : Except (List Tok) (List Tok)} (hk : topK t.text = 1) (h : IR (bodyT 1 t.off) (.ok r) c s') : IR topP (.ok (t :: r)) c s' := by
  have e : topP (t :: r) = bodyT 1 t.off r := by rw [topP_at, hk, if_neg (by decide)]; unfold tailT; rw [if_pos rfl]
  obtain ⟨h1, h2⟩ := h
  refine ⟨?_, fun c0 h => h2 c0 ?_⟩
  · rw [h1]; unfold goS; simp only [e]
  · rw [← h]; unfold outS; simp only [e]
theorem IR.fail {t : Tok} {r : List Tok} (c : Cl) {x : List Tok → PR Cl} {l : List Tok} (h : x l = .error l) : IR x (.ok l) c (.error l) := by
  refine ⟨by unfold goS; simp only [h], fun c0 h1 => ?_⟩
  unfold outS at h1
  simp only [h] at h1
  cases h1
/-- The items' readers, in steps. -/
theorem ir_num {k : Nat} (o : Int) (s : Except (List Tok) (List Tok)) (h9 : k ≠ 9) (h10 : k ≠ 10) (h11 : k ≠ 11) : IR (fun ts => semiP (bodyI k o ts)) s (.mk k [] 0 0 ((outS numP s).getD 0) 0 [] o) (goS (wantP sSemi) (goS numP s)) := by
  refine IR.semi ?_
  refine IR.congr (x := fun ts => andP (numP ts) fun a r => (.ok (Cl.mk k [] 0 0 a 0 [] o, r) : PR Cl)) ?_ (fun r => by unfold bodyI; rw [if_neg h9, if_neg h10, if_neg h11])
  exact IR.step (c := fun a => Cl.mk k [] 0 0 a 0 [] o) 0 (fun a => IR.pure _ _)
theorem IR.step' {α β : Type} {x : List Tok → PR α} {f : α → List Tok → PR β} {s s2 : Except (List Tok) (List Tok)} {c : β} (d : α) (h : ∀ a, IR (f a) (goS x s) c s2) : IR (fun ts => andP (x ts) (f)) s c s2 := IR.step (c := fun _ => c) d h
def tok00 : Tok := ⟨0, [], 0, 0⟩
theorem ir_spread (o : Int) (s : Except (List Tok) (List Tok)) : IR (fun ts => semiP (bodyI 9 o ts)) s (.mk 9 [] ((outS scopeP (goS (wantP sPer) (goS numP s))).getD 0) 0 ((outS numP s).getD 0) 0 [] o) (goS (wantP sSemi) (goS scopeP (goS (wantP sPer) (goS numP s)))) := by
  refine IR.semi ?_
  refine IR.congr (x := fun ts => andP (numP ts) fun a r => andP (wantP sPer r) fun _ r => andP (scopeP r) fun d r => (.ok (Cl.mk 9 [] d 0 a 0 [] o, r) : PR Cl)) ?_ (fun r => by unfold bodyI; rw [if_pos rfl])
  refine IR.step (c := fun a => Cl.mk 9 [] _ 0 a 0 [] o) 0 (fun a => ?_)
  refine IR.step' tok00 (fun _ => ?_)
  exact IR.step (c := fun d => Cl.mk 9 [] d 0 a 0 [] o) 0 (fun d => IR.pure _ _)
theorem ir_near (o : Int) (s : Except (List Tok) (List Tok)) : IR (fun ts => semiP (bodyI 11 o ts)) s (.mk 11 [(outS nameP s).getD []] 0 0 ((outS numP (goS (wantP sWithin) (goS nameP s))).getD 0) 0 [] o) (goS (wantP sSemi) (goS numP (goS (wantP sWithin) (goS nameP s)))) := by
  refine IR.semi ?_
  refine IR.congr (x := fun ts => andP (nameP ts) fun n r => andP (wantP sWithin r) fun _ r => andP (numP r) fun a r => (.ok (Cl.mk 11 [n] 0 0 a 0 [] o, r) : PR Cl)) ?_ (fun r => by unfold bodyI; rw [if_neg (by decide), if_neg (by decide), if_pos rfl])
  refine IR.step (c := fun n => Cl.mk 11 [n] 0 0 _ 0 [] o) [] (fun n => ?_)
  refine IR.step' tok00 (fun _ => ?_)
  exact IR.step (c := fun a => Cl.mk 11 [n] 0 0 a 0 [] o) 0 (fun a => IR.pure _ _)
theorem ir_window (o : Int) (s : Except (List Tok) (List Tok)) : IR (fun ts => semiP (bodyT 2 o ts)) s (.mk 2 [] ((outS scopeP s).getD 0) ((outS numP (goS scopeP s)).getD 0) ((outS numP (goS (wantP sFrom) (goS numP (goS scopeP s)))).getD 0) ((outS numP (goS (wantP sTo) (goS numP (goS (wantP sFrom) (goS numP (goS scopeP s)))))).getD 0) [] o)
    (goS (wantP sSemi) (goS numP (goS (wantP sTo) (goS numP (goS (wantP sFrom) (goS numP (goS scopeP s))))))) := by
  refine IR.semi ?_
  refine IR.congr (x := fun ts => andP (scopeP ts) fun d r => andP (numP r) fun i r => andP (wantP sFrom r) fun _ r => andP (numP r) fun a r => andP (wantP sTo r) fun _ r => andP (numP r) fun b r => (.ok (Cl.mk 2 [] d i a b [] o, r) : PR Cl)) ?_ (fun r => by unfold bodyT; rw [if_neg (by decide), if_pos rfl])
  refine IR.step (c := fun d => Cl.mk 2 [] d _ _ _ [] o) 0 (fun d => ?_)
  refine IR.step (c := fun i => Cl.mk 2 [] d i _ _ [] o) 0 (fun i => ?_)
  refine IR.step' tok00 (fun _ => ?_)
  refine IR.step (c := fun a => Cl.mk 2 [] d i a _ [] o) 0 (fun a => ?_)
  refine IR.step' tok00 (fun _ => ?_)
  exact IR.step (c := fun b => Cl.mk 2 [] d i a b [] o) 0 (fun b => IR.pure _ _)
theorem ir_approve (o : Int) (s : Except (List Tok) (List Tok)) : IR (fun ts => semiP (bodyT 3 o ts)) s (.mk 3 [] ((outS scopeP s).getD 0) ((outS numP (goS scopeP s)).getD 0) 0 0 [] o) (goS (wantP sSemi) (goS numP (goS scopeP s))) := by
  refine IR.semi ?_
  refine IR.congr (x := fun ts => andP (scopeP ts) fun d r => andP (numP r) fun i r => (.ok (Cl.mk 3 [] d i 0 0 [] o, r) : PR Cl)) ?_ (fun r => by unfold bodyT; rw [if_neg (by decide), if_neg (by decide), if_pos rfl])
  refine IR.step (c := fun d => Cl.mk 3 [] d _ 0 0 [] o) 0 (fun d => ?_)
  exact IR.step (c := fun i => Cl.mk 3 [] d i 0 0 [] o) 0 (fun i => IR.pure _ _)
theorem ir_blast (o : Int) (s : Except (List Tok) (List Tok)) : IR (fun ts => semiP (bodyT 4 o ts)) s (.mk 4 [] 0 0 ((outS numP s).getD 0) 0 [] o) (goS (wantP sSemi) (goS numP s)) := by
  refine IR.semi ?_
  refine IR.congr (x := fun ts => andP (numP ts) fun a r => (.ok (Cl.mk 4 [] 0 0 a 0 [] o, r) : PR Cl)) ?_ (fun r => by unfold bodyT; rw [if_neg (by decide), if_neg (by decide), if_neg (by decide), if_pos rfl])
  exact IR.step (c := fun a => Cl.mk 4 [] 0 0 a 0 [] o) 0 (fun a => IR.pure _ _)
theorem ir_cap (o : Int) (s : Except (List Tok) (List Tok)) : IR (fun ts => semiP (bodyT 5 o ts)) s (.mk 5 [] 0 ((outS numP (goS (wantP sFeed) s)).getD 0) ((outS numP (goS (wantP sAt) (goS numP (goS (wantP sFeed) s)))).getD 0) 0 [] o) (goS (wantP sSemi) (goS numP (goS (wantP sAt) (goS numP (goS (wantP sFeed) s))))) := by
  refine IR.semi ?_
  refine IR.congr (x := fun ts => andP (wantP sFeed ts) fun _ r => andP (numP r) fun i r => andP (wantP sAt r) fun _ r => andP (numP r) fun a r => (.ok (Cl.mk 5 [] 0 i a 0 [] o, r) : PR Cl)) ?_ (fun r => by unfold bodyT; rw [if_neg (by decide), if_neg (by decide), if_neg (by decide), if_neg (by decide)])
  refine IR.step' tok00 (fun _ => ?_)
  refine IR.step (c := fun i => Cl.mk 5 [] 0 i _ 0 [] o) 0 (fun i => ?_)
  refine IR.step' tok00 (fun _ => ?_)
  exact IR.step (c := fun a => Cl.mk 5 [] 0 i a 0 [] o) 0 (fun a => IR.pure _ _)
/-- The values that are read are numbers of the machine. -/
theorem RP.num {w : World} {p : Nat} {ts : List Tok} {en : Int} {s : Except (List Tok) (List Tok)} (h : RP w p ts en s) : In64 ((outS numP s).getD 0) := by
  rcases ho : outS numP s with _ | a
  · show In64 0; exact ⟨by decide, by decide⟩
  · obtain ⟨r, r', rfl, hx, _⟩ := out_some ho
    obtain ⟨k, off, ⟨v, _, hs, _⟩, hr⟩ := h
    obtain ⟨t, h1, _, rfl⟩ := numP_len hx
    exact (hs.1 t (List.mem_of_mem_drop (by rw [← hr, h1]; simp))).2.1
theorem RP.name {w : World} {p : Nat} {ts : List Tok} {en : Int} {s : Except (List Tok) (List Tok)} (h : RP w p ts en s) : ((outS nameP s).getD []).length ≤ 9223372036854775807 := by
  rcases ho : outS nameP s with _ | a
  · show 0 ≤ _; omega
  · obtain ⟨r, r', rfl, hx, _⟩ := out_some ho
    obtain ⟨k, off, ⟨v, _, hs, _⟩, hr⟩ := h
    obtain ⟨t, h1, _, rfl⟩ := nameP_len hx
    exact (hs.1 t (List.mem_of_mem_drop (by rw [← hr, h1]; simp))).2.2.2
theorem scope_lt (s : Except (List Tok) (List Tok)) : (outS scopeP s).getD 0 < 256 := by
  rcases ho : outS scopeP s with _ | a
  · show 0 < 256; omega
  · obtain ⟨r, r', rfl, hx, _⟩ := out_some ho
    obtain ⟨t, h1, _, rfl⟩ := scopeP_len hx
    show scopeN t.text < 256
    unfold scopeN
    repeat' split
    all_goals omega
theorem RP.fx {w W : World} {p : Nat} {ts : List Tok} {en : Int} {s : Except (List Tok) (List Tok)} {S : Nat → Prop} (h : RP w p ts en s) (hf : Fx S w W) (hS : ∀ b, S b → p < b) : RP W p ts en s := by
  cases s with
  | ok r => obtain ⟨k, off, h1, h2⟩ := h; exact ⟨k, off, h1.fx hf hS, h2⟩
  | error r => obtain ⟨k, h1⟩ := h; exact ⟨k, h1.fx hf hS⟩
theorem RP.lt {w : World} {p : Nat} {ts : List Tok} {en : Int} {s : Except (List Tok) (List Tok)} (h : RP w p ts en s) : p < w.heap.size := by
  cases s with
  | ok r => obtain ⟨k, off, ⟨v, h1, _⟩, _⟩ := h; exact h1.lt
  | error r => obtain ⟨k, ⟨v, h1, _⟩⟩ := h; exact h1.lt
theorem Box.frozen8 {w : World} {b : Nat} {cs : Array Value} {t : TypeId} (h : Box w b cs t) : w.frozen? ⟨b, 0, none⟩ = false ∧ w.frozen? ⟨b, 1, none⟩ = false ∧ w.frozen? ⟨b, 2, none⟩ = false ∧ w.frozen? ⟨b, 3, none⟩ = false ∧ w.frozen? ⟨b, 4, none⟩ = false ∧ w.frozen? ⟨b, 5, none⟩ = false ∧ w.frozen? ⟨b, 6, none⟩ = false ∧ w.frozen? ⟨b, 7, none⟩ = false :=
  ⟨h.frozen 0, h.frozen 1, h.frozen 2, h.frozen 3, h.frozen 4, h.frozen 5, h.frozen 6, h.frozen 7⟩
end Go.Proofs.YtganlldidjbpiaaGreatDoor

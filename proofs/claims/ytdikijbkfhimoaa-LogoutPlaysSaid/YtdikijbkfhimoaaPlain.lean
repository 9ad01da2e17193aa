/- What the calls do to a notification, plainly. -/
import Derived.Test.YtdikijbkfhimoaaPlay
namespace Go.Proofs.Ytdikijbkfhimoaa
open Go.RowKit Go.Maps

theorem look_dueU (delay : Nat) (now : Int) (U : Log) (s : Str) : alook (dueU delay now U) s = (alook U s).map (dueS delay now) := alook_map (dueS delay now) U s
theorem look_dueS (delay : Nat) (now : Int) (x : Ses) (c : Str) : alook (dueS delay now x).2 c = (alook x.2 c).map (dueN delay x.1 now) := alook_map (dueN delay x.1 now) x.2 c
theorem noteAt_iff {U : Log} {s c : Str} {n : Note} : noteAt U s c = some n ↔ ∃ x, alook U s = some x ∧ alook x.2 c = some n := by
  unfold noteAt
  cases h : alook U s with
  | none => simp
  | some x => simp
theorem noteAt_due {delay : Nat} {now : Int} {U : Log} {s c : Str} {x : Ses} (h : alook U s = some x) : noteAt (dueU delay now U) s c = (alook x.2 c).map (dueN delay x.1 now) := by
  rw [noteAt_some (show alook (dueU delay now U) s = some (dueS delay now x) by rw [look_dueU, h]; rfl), look_dueS]
theorem dueN_not (delay : Nat) (at_ now : Int) (n : Note) : ripe delay at_ now (dueN delay at_ now n) = false := by
  cases h : ripe delay at_ now n with
  | true => rw [dueN_yes h]; exact ripe_no (by simp)
  | false => rw [dueN_no h]; exact h
theorem look_setU {U : Log} {s c : Str} {n : Note} {x : Ses} (h : alook U s = some x) (s' : Str) : alook (setU U s c n) s' = if s = s' then some (x.1, aput x.2 c n) else alook U s' := by
  unfold setU
  rw [h]
  exact alook_put U s _ s'
theorem noteAt_set {U : Log} {s c : Str} {n : Note} {x : Ses} (h : alook U s = some x) (s' c' : Str) : noteAt (setU U s c n) s' c' = if s = s' ∧ c = c' then some n else noteAt U s' c' := by
  by_cases hs : s = s'
  · subst hs
    rw [noteAt_some (show alook (setU U s c n) s = some (x.1, aput x.2 c n) by rw [look_setU h, if_pos rfl]), alook_put]
    by_cases hc : c = c'
    · rw [if_pos hc, if_pos ⟨rfl, hc⟩]
    · rw [if_neg hc, if_neg (fun e => hc e.2), noteAt_some h]
  · rw [if_neg (fun e => hs e.1)]
    unfold noteAt
    rw [look_setU h, if_neg hs]
/-- Nothing is due. -/
def NoDue (delay : Nat) (now : Int) (U : Log) : Prop := ∀ s c, ¬ isDue delay now U s c
theorem NoDue.due {delay : Nat} {now : Int} {U : Log} (h : NoDue delay now U) : Due delay now U [] := ⟨List.Pairwise.nil, fun p => ⟨fun hp => by simp at hp, fun hp => absurd hp (h _ _)⟩⟩
theorem noDue_due (delay : Nat) (now : Int) (U : Log) : NoDue delay now (dueU delay now U) := by
  rintro s c ⟨x, hx, n, hn, hr⟩
  rw [look_dueU, Option.map_eq_some_iff] at hx
  obtain ⟨y, hy, rfl⟩ := hx
  rw [look_dueS, Option.map_eq_some_iff] at hn
  obtain ⟨k, hk, rfl⟩ := hn
  rw [show (dueS delay now y).1 = y.1 from rfl, dueN_not] at hr
  cases hr
theorem NoDue.set {delay : Nat} {now : Int} {U : Log} (h : NoDue delay now U) {s c : Str} {n : Note} {x : Ses} (hx : alook U s = some x) (hn : n.1 ≠ 0) : NoDue delay now (setU U s c n) := by
  rintro s' c' ⟨y, hy, k, hk, hr⟩
  rw [look_setU hx] at hy
  by_cases hs : s = s'
  · rw [if_pos hs] at hy
    injection hy with hy
    subst hy
    rw [show alook (x.1, aput x.2 c n).2 c' = alook (aput x.2 c n) c' from rfl, alook_put] at hk
    by_cases hc : c = c'
    · rw [if_pos hc] at hk
      injection hk with hk
      subst hk
      rw [ripe_no hn] at hr
      cases hr
    · rw [if_neg hc] at hk
      subst hs
      exact h s c' ⟨x, hx, k, hk, hr⟩
  · rw [if_neg hs] at hy
    exact h s' c' ⟨y, hy, k, hk, hr⟩
theorem due_out {delay : Nat} {now : Int} {U : Log} {s c : Str} (h : isDue delay now U s c) : ∃ k, noteAt (dueU delay now U) s c = some (1, k) := by
  obtain ⟨x, hx, n, hn, hr⟩ := h
  exact ⟨n.2, by rw [noteAt_due hx, hn, Option.map_some, dueN_yes hr]⟩
theorem endE_out {U : Log} {s c : Str} {k : Nat} (h : noteAt U s c = some (1, k)) : endE U s c = 0 := by unfold endE; rw [h]; rfl
theorem endU_out {U : Log} {s c : Str} {k : Nat} (h : noteAt U s c = some (1, k)) (f : Note → Note) : endU f U s c = setU U s c (f (1, k)) := by unfold endU; rw [h]; rfl
/-- Of the pairs m, the first i have been done. -/
structure OrdTo (delay : Nat) (now : Int) (m : List Pr) (i : Nat) (U : Log) : Prop where
  no : NoDue delay now U
  out : ∀ j (_ : i ≤ j) (hj : j < m.length), ∃ k, noteAt U m[j].1 m[j].2 = some (1, k)
theorem OrdTo.start {delay : Nat} {now : Int} {U : Log} {m : List Pr} (h : Due delay now U m) : OrdTo delay now m 0 (dueU delay now U) :=
  ⟨noDue_due _ _ _, fun _ _ hj => due_out ((h.2 _).1 (List.getElem_mem hj))⟩
theorem OrdTo.next {delay : Nat} {now : Int} {U U0 : Log} {m : List Pr} {i : Nat} (h : OrdTo delay now m i U) (hd : Due delay now U0 m) (hi : i < m.length) : endE U m[i].1 m[i].2 = 0 ∧ OrdTo delay now m (i + 1) (endU doneN U m[i].1 m[i].2) := by
  obtain ⟨k, hk⟩ := h.out i (Nat.le_refl _) hi
  obtain ⟨x, hx, _⟩ := noteAt_iff.1 hk
  refine ⟨endE_out hk, ?_⟩
  rw [endU_out hk]
  refine ⟨h.no.set hx (by simp [doneN]), fun j hj hjl => ?_⟩
  obtain ⟨k2, hk2⟩ := h.out j (by omega) hjl
  refine ⟨k2, ?_⟩
  rw [noteAt_set hx, if_neg]
  · exact hk2
  · rintro ⟨e1, e2⟩
    have hlt := List.pairwise_iff_getElem.1 hd.1 i j hi hjl (by omega)
    have e : m[i] = m[j] := Prod.ext e1 e2
    rw [e] at hlt
    exact pairLt_irrefl _ hlt
theorem due_word {most delay : Nat} {now : Int} {U : Log} (hg : Good most delay U) {s c : Str} (h : isDue delay now U s c) : wordB s = true ∧ wordB c = true := by
  obtain ⟨x, hx, n, hn, _⟩ := h
  exact ⟨hg.word _ (alook_some hx), (hg.each _ (alook_some hx)).word _ (alook_some hn)⟩
end Go.Proofs.Ytdikijbkfhimoaa

/- The plain laws of workflows. -/
import Derived.Test.YtionejokdfgmhaaFails
namespace Go.Proofs.Ytionejokdfgmhaa
open Go.RowKit Go.Maps

theorem alook_upd (U : Wfs) (i k : Str) (f : Proc → Proc) : alook (updU U i f) k = if i = k then (alook U k).map f else alook U k := by
  unfold updU
  cases h : alook U i with
  | none =>
    by_cases e : i = k
    · rw [if_pos e, ← e, h]; rfl
    · rw [if_neg e]
  | some x =>
    show alook (aput U i (f x)) k = _
    rw [alook_put]
    by_cases e : i = k
    · rw [if_pos e, if_pos e, ← e, h]; rfl
    · rw [if_neg e, if_neg e]
theorem alook_start {U : Wfs} {k : Str} {x : Proc} (h : alook U k = some x) (i kind user by_ : Str) (s : List Stp) (u n : Int) : alook (startU U i kind user by_ s u n) k = some x := by
  unfold startU
  split
  · rw [alook_app, h]; rfl
  · exact h
theorem alook_canc {U : Wfs} {k : Str} {x : Proc} (h : alook U k = some x) (u : Str) (hu : x.user ≠ u) : alook (cancU U u) k = some x := by
  unfold cancU
  induction U with
  | nil => simp [alook] at h
  | cons a r ih =>
    rw [alook_cons] at h
    rw [List.filter_cons]
    by_cases e : a.1 = k
    · rw [if_pos e] at h
      injection h with h
      rw [if_pos (by rw [h]; simpa using hu), alook_cons, if_pos e, h]
    · rw [if_neg e] at h
      by_cases e2 : (!(a.2.user == u)) = true
      · rw [if_pos e2, alook_cons, if_neg e]; exact ih h
      · rw [if_neg e2]; exact ih h
/-- What an operation does to a workflow that is there. -/
def effX (U : Wfs) (x : Proc) (o : OpD) (k : Str) : Proc :=
  if o.id = k then
    (if o.kind = 2 ∧ apprC U o.id o.by_ o.groups o.now = 0 then apprX o.by_ x
     else if o.kind = 3 ∧ rejC U o.id o.groups o.now = 0 then rejX x
     else if o.kind = 5 ∧ (takeR U o.id o.now).2.2 = 0 then takX x else x)
  else x
theorem alook_do {U : Wfs} {k : Str} {x : Proc} (h : alook U k = some x) (o : OpD) (h7 : o.kind = 7 → x.user ≠ o.user) : alook (doU U o) k = some (effX U x o k) := by
  unfold doU effX
  by_cases e1 : o.kind = 1
  · rw [if_pos e1, alook_start h]; simp [e1]
  rw [if_neg e1]
  by_cases e2 : o.kind = 2
  · rw [if_pos e2]
    unfold apprU
    by_cases c : apprC U o.id o.by_ o.groups o.now = 0
    · rw [if_pos c, alook_upd, h]
      by_cases e : o.id = k <;> simp [e, e2]
      rw [← e]; simp [c]
    · rw [if_neg c, h]; simp [e2, c]
  rw [if_neg e2]
  by_cases e3 : o.kind = 3
  · rw [if_pos e3]
    unfold rejU
    by_cases c : rejC U o.id o.groups o.now = 0
    · rw [if_pos c, alook_upd, h]
      by_cases e : o.id = k <;> simp [e, e3]
      rw [← e]; simp [c]
    · rw [if_neg c, h]; simp [e3, c]
  rw [if_neg e3]
  by_cases e5 : o.kind = 5
  · rw [if_pos e5]
    unfold takeU
    by_cases c : (takeR U o.id o.now).2.2 = 0
    · rw [if_pos c, alook_upd, h]
      by_cases e : o.id = k <;> simp [e, e5]
      rw [← e]; simp [c]
    · rw [if_neg c, h]; simp [e5, c]
  rw [if_neg e5]
  by_cases e7 : o.kind = 7
  · rw [if_pos e7, alook_canc h _ (h7 e7)]; simp [e2, e3, e5]
  · rw [if_neg e7, h]; simp [e2, e3, e5]
theorem pend_of {U : Wfs} {k : Str} {now : Int} {x : Proc} (h : alook U k = some x) : pendC U k now = 0 ↔ stS x (lim now) = sPending := by
  unfold pendC
  rw [h]
  simp only
  by_cases e : stS x (lim now) = sExpired
  · rw [if_pos e, e]; exact ⟨(fun h => by cases h), (fun h => absurd h (by decide))⟩
  · rw [if_neg e]
    by_cases e2 : stS x (lim now) = sPending
    · simp [e2]
    · rw [if_neg e2]; exact ⟨(fun h => by cases h), (fun h => absurd h e2)⟩
theorem appr_ok {U : Wfs} {k b : Str} {g : List Str} {now : Int} {x : Proc} (h : alook U k = some x) (hc : apprC U k b g now = 0) : stS x (lim now) = sPending ∧ denB x b = false ∧ hasS x.appr b = false := by
  unfold apprC at hc
  by_cases hp : pendC U k now = 0
  · rw [if_pos hp, h] at hc
    simp only at hc
    refine ⟨(pend_of h).1 hp, ?_⟩
    by_cases h1 : (denB x b || !hasS g (grpS x)) = true
    · rw [if_pos h1] at hc; cases hc
    · rw [if_neg h1] at hc
      by_cases h2 : hasS x.appr b = true
      · rw [if_pos h2] at hc; cases hc
      · simp only [Bool.or_eq_true, not_or] at h1
        exact ⟨by simpa using h1.1, by simpa using h2⟩
  · rw [if_neg hp] at hc; exact absurd hc hp
theorem rej_ok {U : Wfs} {k : Str} {g : List Str} {now : Int} {x : Proc} (h : alook U k = some x) (hc : rejC U k g now = 0) : stS x (lim now) = sPending := by
  unfold rejC at hc
  by_cases hp : pendC U k now = 0
  · exact (pend_of h).1 hp
  · rw [if_neg hp] at hc; exact absurd hc hp
theorem take_at {U : Wfs} {k : Str} {now : Int} {x : Proc} (h : alook U k = some x) : takeR U k now = if stS x (lim now) = sPending then ([], [], 23) else if stS x (lim now) = sExpired then ([], [], 13) else if stS x (lim now) = sRejected then ([], [], 11) else if x.tak then ([], [], 18) else (x.kind, x.user, 0) := by
  unfold takeR; rw [h]
theorem st_pending {x : Proc} {t : Int} (h : stS x t = sPending) : x.step ≠ x.steps.length ∧ x.rej = false := by
  unfold stS at h
  by_cases h1 : x.step = x.steps.length
  · rw [if_pos h1] at h; exact absurd h (by decide)
  · rw [if_neg h1] at h
    by_cases h2 : x.rej = true
    · rw [if_pos h2] at h; exact absurd h (by decide)
    · exact ⟨h1, by simpa using h2⟩
/-- A workflow whose result was taken, or that was rejected. -/
def Fin (x : Proc) : Prop := (x.step = x.steps.length ∧ x.tak = true) ∨ (x.step ≠ x.steps.length ∧ x.rej = true)
theorem Fin.st {x : Proc} (h : Fin x) (t : Int) : stS x t = if x.step = x.steps.length then sApproved else sRejected := by
  unfold stS
  rcases h with ⟨h1, _⟩ | ⟨h1, h2⟩
  · rw [if_pos h1, if_pos h1]
  · rw [if_neg h1, if_neg h1, if_pos h2]
theorem Fin.stays {U : Wfs} {x : Proc} {k : Str} (hf : Fin x) (h : alook U k = some x) (o : OpD) : effX U x o k = x := by
  have hn : ∀ t, stS x t ≠ sPending := fun t hp => by
    obtain ⟨h1, h2⟩ := st_pending hp
    rcases hf with ⟨e, _⟩ | ⟨_, e⟩
    · exact h1 e
    · rw [h2] at e; cases e
  unfold effX
  by_cases e : o.id = k
  · rw [if_pos e]
    subst e
    rw [if_neg (fun hc => hn _ (appr_ok h hc.2).1), if_neg (fun hc => hn _ (rej_ok h hc.2)), if_neg (fun hc => ?_)]
    have ht := hc.2
    rw [take_at h, if_neg (hn _)] at ht
    rcases hf with ⟨e1, e2⟩ | ⟨e1, e2⟩
    · rw [show stS x (lim o.now) = sApproved by unfold stS; rw [if_pos e1], if_neg (by decide), if_neg (by decide), if_pos e2] at ht; cases ht
    · rw [show stS x (lim o.now) = sRejected by unfold stS; rw [if_neg e1, if_pos e2], if_neg (by decide), if_pos rfl] at ht; cases ht
  · rw [if_neg e]
/-- The operations, but those that cancel. -/
def run7 (U : Wfs) (l : List OpD) : Wfs := l.foldl (fun U o => if o.kind = 7 then U else doU U o) U
theorem run7_snoc (U : Wfs) (l : List OpD) (k : Nat) (h : k < l.length) : run7 U (l.take (k + 1)) = if l[k].kind = 7 then run7 U (l.take k) else doU (run7 U (l.take k)) l[k] := by
  unfold run7
  rw [List.take_succ_eq_append_getElem h, List.foldl_append]
  rfl
theorem fin_run {U : Wfs} {x : Proc} {k : Str} (hf : Fin x) (h : alook U k = some x) (l : List OpD) : alook (run7 U l) k = some x := by
  unfold run7
  induction l generalizing U with
  | nil => exact h
  | cons o r ih =>
    rw [List.foldl_cons]
    refine ih ?_
    by_cases e : o.kind = 7
    · rw [if_pos e]; exact h
    · rw [if_neg e, alook_do h o (fun h7 => absurd h7 e), hf.stays h]
end Go.Proofs.Ytionejokdfgmhaa

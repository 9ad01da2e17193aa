/- The plain laws of workflows: what stays, the open ones, the counts. -/
import Derived.Test.YtionejokdfgmhaaLawQ
namespace Go.Proofs.Ytionejokdfgmhaa
open Go.RowKit Go.Maps

theorem appr_same (b : Str) (x : Proc) : (apprX b x).steps = x.steps ∧ (apprX b x).user = x.user ∧ (apprX b x).by_ = x.by_ ∧ (apprX b x).appr = x.appr ++ [b] := by
  unfold apprX; split <;> exact ⟨rfl, rfl, rfl, rfl⟩
theorem eff_same (U : Wfs) (x : Proc) (o : OpD) (k : Str) : (effX U x o k).steps = x.steps ∧ (effX U x o k).user = x.user ∧ (effX U x o k).by_ = x.by_ := by
  unfold effX
  have h := appr_same o.by_ x
  split
  · split
    · exact ⟨h.1, h.2.1, h.2.2.1⟩
    · split
      · exact ⟨rfl, rfl, rfl⟩
      · split <;> exact ⟨rfl, rfl, rfl⟩
  · exact ⟨rfl, rfl, rfl⟩
theorem eff_inv {U : Wfs} {x : Proc} {k : Str} (h : alook U k = some x) (hi : Inv x) (o : OpD) : Inv (effX U x o k) := by
  unfold effX
  by_cases e : o.id = k
  · rw [if_pos e]
    subst e
    by_cases c2 : o.kind = 2 ∧ apprC U o.id o.by_ o.groups o.now = 0
    · rw [if_pos c2]; exact hi.appr_ (pend_step (appr_ok h c2.2).1 hi) _
    · rw [if_neg c2]
      split
      · obtain ⟨a1, a2, a3, a4, a5, a6, a7⟩ := hi; exact ⟨a1, a2, a3, a4, a5, a6, a7⟩
      · split
        · obtain ⟨a1, a2, a3, a4, a5, a6, a7⟩ := hi; exact ⟨a1, a2, a3, a4, a5, a6, a7⟩
        · exact hi
  · rw [if_neg e]; exact hi
theorem upd_uniq {U : Wfs} (h : AUniq U) (k : Str) (f : Proc → Proc) : AUniq (updU U k f) := by
  unfold updU
  split
  · exact aput_uniq h _ _
  · exact h
theorem start_new {U : Wfs} {i kind user by_ : Str} {s : List Stp} {u n : Int} (h : startC U i kind user by_ s u n = 0) : alook U i = none ∧ chkC s = 0 := by
  unfold startC at h
  split at h
  · split at h
    · rename_i hc
      split at h
      · cases h
      · split at h
        · cases h
        · rename_i hn
          exact ⟨by simpa using hn, hc⟩
    · rename_i hc; exact absurd h hc
  · cases h
theorem do_uniq {U : Wfs} (h : AUniq U) (o : OpD) : AUniq (doU U o) := by
  unfold doU
  split
  · unfold startU
    split
    · rename_i hc
      have hn := (start_new hc).1
      have := aput_uniq h o.id (newX o.name o.user o.by_ o.steps o.until_)
      unfold aput at this
      rw [hn] at this
      exact this
    · exact h
  · split
    · unfold apprU; split
      · exact upd_uniq h _ _
      · exact h
    · split
      · unfold rejU; split
        · exact upd_uniq h _ _
        · exact h
      · split
        · unfold takeU; split
          · exact upd_uniq h _ _
          · exact h
        · split
          · exact List.Pairwise.filter _ h
          · exact h
/-- A workflow that was begun, and what stays so. -/
structure Has (U : Wfs) (o : OpD) (x : Proc) : Prop where
  look : alook U o.id = some x
  inv : Inv x
  steps : x.steps = o.steps
  user : x.user = o.user
  by_ : x.by_ = o.by_
  uniq : AUniq U
theorem Has.start {o : OpD} (h : startC [] o.id o.name o.user o.by_ o.steps o.until_ o.now = 0) : Has (startU [] o.id o.name o.user o.by_ o.steps o.until_ o.now) o (newX o.name o.user o.by_ o.steps o.until_) := by
  have hu : startU [] o.id o.name o.user o.by_ o.steps o.until_ o.now = [(o.id, newX o.name o.user o.by_ o.steps o.until_)] := by unfold startU; rw [if_pos h]; rfl
  rw [hu]
  exact ⟨by rw [alook_cons]; simp, newX_inv (start_new h).2, rfl, rfl, rfl, by simp [AUniq]⟩
theorem Has.next {U : Wfs} {o : OpD} {x : Proc} (h : Has U o x) (p : OpD) (h7 : p.kind = 7 → o.user ≠ p.user) : Has (doU U p) o (effX U x p o.id) := by
  have e := eff_same U x p o.id
  exact ⟨alook_do h.look p (fun h => by rw [‹Has U o x›.user]; exact h7 h), eff_inv h.look h.inv p, e.1.trans h.steps, e.2.1.trans h.user, e.2.2.trans h.by_, do_uniq h.uniq p⟩

/-! ### open -/
theorem open_mem {U : Wfs} (hu : AUniq U) {k : Str} {x : Proc} (h : alook U k = some x) (g : Str) (t : Int) : k ∈ openL U g t ↔ openB x g (lim t) = true := by
  unfold openL
  rw [(sortS_perm _).mem_iff, List.mem_map]
  constructor
  · rintro ⟨p, hp, rfl⟩
    obtain ⟨h1, h2⟩ := List.mem_filter.1 hp
    have := alook_of_mem hu (show (p.1, p.2) ∈ U from h1)
    rw [h] at this
    injection this with this
    rw [this]; exact h2
  · intro hb
    exact ⟨(k, x), List.mem_filter.2 ⟨alook_some h, hb⟩, rfl⟩
theorem str_lt_of {x y : Str} (h : x ≤ y) (hne : x ≠ y) : x < y := Classical.byContradiction (fun hn => hne (str_antisymm h (List.not_lt.1 hn)))
theorem open_strict {U : Wfs} (hu : AUniq U) (g : Str) (t : Int) : (openL U g t).Pairwise (fun x y => x < y) := by
  have h1 := sortS_sorted ((U.filter fun p => openB p.2 g (lim t)).map (·.1))
  have h2 : (sortS ((U.filter fun p => openB p.2 g (lim t)).map (·.1))).Pairwise (fun x y => x ≠ y) := by
    refine ((sortS_perm _).pairwise_iff (fun {_ _} h => Ne.symm h)).2 ?_
    rw [List.pairwise_map]
    exact List.Pairwise.filter _ hu
  exact (h1.and h2).imp (fun {a b} h => str_lt_of h.1 h.2)

/-! ### counts -/
def sumN (l : List Stp) : Nat := (l.map (·.2.toNat)).sum
theorem sumN_snoc (l : List Stp) (k : Nat) (h : k < l.length) : sumN (l.take (k + 1)) = sumN (l.take k) + l[k].2.toNat := by
  unfold sumN
  rw [List.take_succ_eq_append_getElem h, List.map_append, List.sum_append]
  simp
theorem sumN_le (l : List Stp) (k : Nat) : sumN (l.take k) ≤ sumN l := by
  have h : sumN l = sumN (l.take k) + sumN (l.drop k) := by
    unfold sumN
    rw [← List.sum_append, ← List.map_append, List.take_append_drop]
  omega
theorem done_yes {x : Proc} (h : Inv x) (hs : x.step = x.steps.length) : x.appr.length = sumN x.steps := by
  rw [h.appr]
  unfold doneN
  rw [h.done hs, hs, List.take_length]
  rfl
theorem done_no {x : Proc} (h : Inv x) (hs : x.step ≠ x.steps.length) : x.appr.length < sumN x.steps := by
  have hlt : x.step < x.steps.length := by have := h.step; omega
  have h1 := sumN_snoc x.steps x.step hlt
  have h2 := sumN_le x.steps (x.step + 1)
  have h3 := h.count hlt
  have h4 : doneN x = sumN (x.steps.take x.step) + x.count := rfl
  rw [h.appr, h4]
  omega
theorem sumN_bd {l : List Stp} (h : ∀ s ∈ l, s.2 ≤ 8) : sumN l ≤ 8 * l.length := sum_le8 l h
theorem sts_of (x : Proc) (t : Int) (h : x.step ≠ x.steps.length) : stS x t = sRejected ∨ stS x t = sExpired ∨ stS x t = sPending := by
  unfold stS
  rw [if_neg h]
  split
  · exact .inl rfl
  · split
    · exact .inr (.inl rfl)
    · exact .inr (.inr rfl)
theorem eff_appr {U : Wfs} {x : Proc} {k : Str} (o : OpD) : (effX U x o k).appr = if o.id = k ∧ o.kind = 2 ∧ apprC U o.id o.by_ o.groups o.now = 0 then x.appr ++ [o.by_] else x.appr := by
  unfold effX
  have h := appr_same o.by_ x
  by_cases e : o.id = k
  · rw [if_pos e]
    by_cases c2 : o.kind = 2 ∧ apprC U o.id o.by_ o.groups o.now = 0
    · rw [if_pos c2, if_pos ⟨e, c2⟩]; exact h.2.2.2
    · have hn : ¬ (o.id = k ∧ o.kind = 2 ∧ apprC U o.id o.by_ o.groups o.now = 0) := fun c => c2 c.2
      rw [if_neg c2, if_neg hn]
      split
      · rfl
      · split <;> rfl
  · rw [if_neg e, if_neg (fun c => e c.1)]
end Go.Proofs.Ytionejokdfgmhaa

/- Plain facts on levels: more proofs, fewer proofs, the needed ones. -/
import Derived.Test.YtmipnhdfhgekkaaOps
namespace Go.Proofs.Ytmipnhdfhgekkaa
open Go.RowKit

/-- More factors, no lower level. -/
theorem cntTo_mono {l m : List Prf} (h : ∀ f, hasL l f = true → hasL m f = true) : ∀ k, cntTo l k ≤ cntTo m k
  | 0 => by simp [cntTo]
  | k + 1 => by
    have ih := cntTo_mono h k
    unfold cntTo
    cases hl : hasL l ((k : Int) + 1)
    · simp only [Bool.false_eq_true, if_false]
      split <;> omega
    · rw [h _ hl]
      simp only [if_true]
      omega
theorem level_mono {l m : List Prf} (h : ∀ f, hasL l f = true → hasL m f = true) : levelL l ≤ levelL m := by
  have hc : cntL l ≤ cntL m := cntTo_mono h 3
  have hb := cntL_bd m
  unfold levelL
  split
  · split
    · exact hc
    · omega
  · cases h4 : hasL l 4
    · simp only [Bool.false_eq_true, if_false]
      split
      · omega
      · split <;> omega
    · rw [h 4 h4]
      simp only [if_true]
      split <;> omega
theorem level_bd (l : List Prf) : 0 ≤ levelL l ∧ levelL l ≤ 3 := by
  have hb := cntL_bd l
  unfold levelL
  split
  · omega
  · split <;> omega
theorem has_app (l m : List Prf) (f : Int) : hasL (l ++ m) f = (hasL l f || hasL m f) := List.any_append
theorem has_mem {l m : List Prf} (h : ∀ x ∈ l, x ∈ m) (f : Int) : hasL l f = true → hasL m f = true := by
  intro hx
  obtain ⟨x, hx, hp⟩ := List.any_eq_true.1 hx
  exact List.any_eq_true.2 ⟨x, h x hx, hp⟩
theorem has_del (l : List Prf) (p : Prf) (f : Int) : hasL l f = true → hasL (delL l p.1 ++ [p]) f = true := by
  intro hx
  obtain ⟨x, hx, hp⟩ := List.any_eq_true.1 hx
  by_cases hf : hasB p.1 x = true
  · refine List.any_eq_true.2 ⟨p, by simp, ?_⟩
    unfold hasB at hp hf ⊢
    rw [beq_iff_eq] at hp hf ⊢
    omega
  · exact List.any_eq_true.2 ⟨x, List.mem_append_left _ (List.mem_filter.2 ⟨hx, by simpa using hf⟩), hp⟩
theorem del_ne {l : List Prf} {f : Int} {k : Nat} (h : k < (delL l f).length) : ((delL l f)[k].1 == f) = false := by
  have hm := List.getElem_mem h
  have := (List.mem_filter.1 hm).2
  simpa [hasB] using this

/-! ### Fresh -/
theorem fresh_twice (l : List Prf) (now age : Int) : freshL (freshL l now age) now age = freshL l now age := by
  unfold freshL; rw [List.filter_filter]; simp
theorem fresh_app (l m : List Prf) (now age : Int) : freshL (l ++ m) now age = freshL l now age ++ freshL m now age := List.filter_append ..
theorem fresh_age (l : List Prf) {now age age' : Int} (h : lim age ≤ lim age') : ∀ x ∈ freshL l now age, x ∈ freshL l now age' := by
  intro x hx
  obtain ⟨h1, h2⟩ := List.mem_filter.1 hx
  refine List.mem_filter.2 ⟨h1, ?_⟩
  unfold freshB at h2 ⊢
  rw [decide_eq_true_eq] at h2 ⊢
  omega
theorem meets_app {l : List Prf} (m : List Prf) {level age now : Int} (h : meetsB l level age now = true) : meetsB (l ++ m) level age now = true := by
  unfold meetsB at h ⊢
  rw [decide_eq_true_eq] at h ⊢
  rw [fresh_app]
  exact Int.le_trans h (level_mono fun f => has_mem (fun x hx => List.mem_append_left _ hx) f)
theorem meets_less {l : List Prf} {level age now : Int} (less : Int) (h0 : 0 ≤ less) (h : meetsB l level age now = true) : meetsB l (level - less) age now = true := by
  unfold meetsB at h ⊢
  rw [decide_eq_true_eq] at h ⊢
  omega
theorem meets_more {l : List Prf} {level age now : Int} (more : Int) (h : meetsB l level age now = true) : meetsB l level (lim (lim age + lim more)) now = true := by
  unfold meetsB at h ⊢
  rw [decide_eq_true_eq] at h ⊢
  refine Int.le_trans h (level_mono fun f => has_mem (fresh_age l ?_) f)
  have := lim_bd age
  have := lim_bd more
  unfold lim at *
  omega
end Go.Proofs.Ytmipnhdfhgekkaa

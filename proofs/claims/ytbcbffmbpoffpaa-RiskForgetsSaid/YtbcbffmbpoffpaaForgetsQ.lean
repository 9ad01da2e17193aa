/- RiskForgets: the plain part: the last sixteen different ones, read backwards. -/
import Derived.Test.YtbcbffmbpoffpaaRemembers
namespace Go.Proofs.Ytbcbffmbpoffpaa
open Go.RowKit Go.Maps Go.ChangeShapes Go.WideShapes Go.ChangeAt

def noS (x : Str) (y : Str) : Bool := !(y == x)
/-- The different ones, the first of each. -/
def DR : List Str → List Str
  | [] => []
  | x :: r => x :: (DR r).filter (noS x)
theorem DR_mem (r : List Str) (k : Str) : k ∈ DR r ↔ k ∈ r := by
  induction r with
  | nil => simp [DR]
  | cons x r ih =>
    simp only [DR, List.mem_cons, List.mem_filter, ih]
    constructor
    · rintro (h | h)
      · exact .inl h
      · exact .inr h.1
    · rintro (h | h)
      · exact .inl h
      · by_cases e : k = x
        · exact .inl e
        · exact .inr ⟨h, by simp [noS, e]⟩
def outS (P : List Str) (y : Str) : Bool := !P.contains y
theorem DR_app (P S : List Str) : DR (P ++ S) = DR P ++ (DR S).filter (outS P) := by
  induction P with
  | nil => simp only [List.nil_append, DR]; rw [List.filter_eq_self.2]; intro a _; simp [outS]
  | cons x P ih =>
    simp only [List.cons_append, DR, ih, List.filter_append, List.filter_filter]
    congr 2
    apply List.filter_congr
    intro y _
    by_cases e : y = x <;> simp [noS, outS, e]
theorem DR_snoc (P : List Str) (y : Str) : (DR (P ++ [y])).length = (DR P).length + if P.contains y then 0 else 1 := by
  rw [DR_app]
  simp only [DR, List.filter_nil, List.length_append]
  by_cases h : y ∈ P <;> simp [outS, h]
theorem DR_nodup (r : List Str) : (DR r).Nodup := by
  induction r with
  | nil => simp [DR]
  | cons x r ih =>
    simp only [DR, List.nodup_cons]
    exact ⟨fun h => by simp [noS] at h, ih.filter _⟩
theorem take_filter (x : Str) : ∀ (D : List Str) (n : Nat), D.Nodup → ((D.take (n + 1)).filter (noS x)).take n = (D.filter (noS x)).take n
  | [], n, _ => by simp
  | d :: D, n, h => by
    simp only [List.nodup_cons] at h
    by_cases e : d = x
    · subst e
      have hn : ∀ y ∈ D, noS d y = true := fun y hy => by
        have : y ≠ d := fun e => h.1 (e ▸ hy)
        simp [noS, this]
      rw [List.take_succ_cons, List.filter_cons_of_neg (by simp [noS]), List.filter_cons_of_neg (by simp [noS])]
      rw [List.filter_eq_self.2 (fun y hy => hn y (List.mem_of_mem_take hy)), List.filter_eq_self.2 hn]
      exact (List.take_take ..).trans (by rw [Nat.min_self])
    · have hp : noS x d = true := by simp [noS, e]
      rw [List.take_succ_cons, List.filter_cons_of_pos hp, List.filter_cons_of_pos hp]
      cases n with
      | zero => simp
      | succ n => rw [List.take_succ_cons, List.take_succ_cons, take_filter x D n h.2]
theorem delP_rev (x : Str) (l : List Str) : (delP (eqS x) l).reverse = l.reverse.filter (noS x) := by
  unfold delP
  rw [List.filter_reverse]
  rfl
theorem moved_rev (l : List Str) (x : Str) : (movedL l x).reverse = (x :: l.reverse.filter (noS x)).take 16 := by
  unfold movedL putS
  rw [List.reverse_drop, List.reverse_append, delP_rev]
  simp only [List.reverse_cons, List.reverse_nil, List.nil_append, List.singleton_append, List.length_append, List.length_cons, List.length_nil]
  have : (delP (eqS x) l).length = (l.reverse.filter (noS x)).length := by rw [← delP_rev, List.length_reverse]
  rw [this]
  generalize l.reverse.filter (noS x) = F
  by_cases h : F.length + 1 ≤ 16
  · rw [List.take_of_length_le (by simp; omega), List.take_of_length_le (by simp; omega)]
  · congr 1
    omega
def devsL (xs : List Str) : List Str := xs.foldl movedL []
theorem devs_rev (xs : List Str) : (devsL xs).reverse = (DR xs.reverse).take 16 := by
  rcases List.eq_nil_or_concat xs with h | ⟨ys, y, h⟩
  · subst h; rfl
  · subst h
    have ih := devs_rev ys
    unfold devsL at ih ⊢
    rw [List.concat_eq_append, List.foldl_append, List.reverse_append]
    show (movedL (ys.foldl movedL []) y).reverse = (DR ([y].reverse ++ ys.reverse)).take 16
    rw [moved_rev, ih]
    show (y :: ((DR ys.reverse).take 16).filter (noS y)).take 16 = (y :: (DR ys.reverse).filter (noS y)).take 16
    rw [List.take_succ_cons, List.take_succ_cons, take_filter y _ 15 (DR_nodup _)]
termination_by xs.length
decreasing_by subst h; simp
theorem devs_no {xs : List Str} {k : Str} (h : k ∉ xs) : hasS (devsL xs) k = false := by
  rw [Bool.eq_false_iff]
  intro hc
  unfold hasS at hc
  obtain ⟨y, hy, e⟩ := List.any_eq_true.1 hc
  have e : y = k := by simpa [eqS] using e
  subst e
  have : y ∈ (devsL xs).reverse := by simpa using hy
  rw [devs_rev] at this
  have := (DR_mem _ _).1 (List.mem_of_mem_take this)
  exact h (by simpa using this)
theorem devs_at {xs : List Str} {P S : List Str} {k : Str} (h : xs.reverse = P ++ k :: S) (hk : k ∉ P) : hasS (devsL xs) k = decide ((DR P).length < 16) := by
  have hr := devs_rev xs
  have hd := DR_app P (k :: S)
  rw [h, hd] at hr
  have hkf : outS P k = true := by simpa [outS] using hk
  simp only [DR] at hr
  rw [List.filter_cons_of_pos hkf] at hr
  rw [Bool.eq_iff_iff, decide_eq_true_eq]
  have hm : hasS (devsL xs) k = true ↔ k ∈ (devsL xs).reverse := by
    simp [hasS, eqS]
  rw [hm, hr]
  have hkd : k ∉ DR P := fun hh => hk ((DR_mem _ _).1 hh)
  rw [List.take_append]
  constructor
  · intro hh
    rcases List.mem_append.1 hh with h1 | h1
    · exact absurd (List.mem_of_mem_take h1) hkd
    · rcases Nat.lt_or_ge (DR P).length 16 with h2 | h2
      · exact h2
      · rw [show 16 - (DR P).length = 0 by omega] at h1
        simp at h1
  · intro hh
    refine List.mem_append.2 (.inr ?_)
    obtain ⟨n, hn⟩ : ∃ n, 16 - (DR P).length = n + 1 := ⟨16 - (DR P).length - 1, by omega⟩
    rw [hn, List.take_succ_cons]
    simp
end Go.Proofs.Ytbcbffmbpoffpaa

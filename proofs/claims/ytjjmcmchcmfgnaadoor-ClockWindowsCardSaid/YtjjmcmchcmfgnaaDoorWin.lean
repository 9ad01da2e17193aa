/- Windows, in plain words: lists apart, what they hold, and the least list; no program. -/
import Derived.Test.YtjjmcmchcmfgnaaDoorBase
namespace Go.Proofs.YtjjmcmchcmfgnaaDoor

abbrev Win := Int × Int
/-- A list of windows holds an instant. -/
def Mem (l : List Win) (t : Int) : Prop := ∃ x ∈ l, x.1 ≤ t ∧ t < x.2
/-- Windows that are not empty, each apart from the next ones. -/
def Sep (l : List Win) : Prop := (∀ x ∈ l, x.1 < x.2) ∧ l.Pairwise (fun a b => a.2 < b.1)
theorem Mem.cons {x : Win} {l : List Win} {t : Int} : Mem (x :: l) t ↔ (x.1 ≤ t ∧ t < x.2) ∨ Mem l t := by simp [Mem]
theorem Mem.append {l m : List Win} {t : Int} : Mem (l ++ m) t ↔ Mem l t ∨ Mem m t := by
  induction l with
  | nil => simp [Mem]
  | cons x l ih => rw [List.cons_append, Mem.cons, Mem.cons, ih, or_assoc]
theorem Mem.nil {t : Int} : ¬ Mem [] t := by simp [Mem]
theorem Mem.one {x : Win} {t : Int} : Mem [x] t ↔ x.1 ≤ t ∧ t < x.2 := by simp [Mem]
theorem Sep.cons {x : Win} {l : List Win} : Sep (x :: l) ↔ x.1 < x.2 ∧ (∀ y ∈ l, x.2 < y.1) ∧ Sep l := by
  unfold Sep
  rw [List.pairwise_cons]
  constructor
  · rintro ⟨h, h2, h3⟩
    exact ⟨h x (List.mem_cons_self ..), h2, fun y hy => h y (List.mem_cons_of_mem _ hy), h3⟩
  · rintro ⟨h, h2, h3, h4⟩
    refine ⟨fun y hy => ?_, h2, h4⟩
    rcases List.mem_cons.1 hy with rfl | hy
    · exact h
    · exact h3 y hy
theorem Sep.first {x : Win} {l : List Win} (h : Sep (x :: l)) {t : Int} (m : Mem (x :: l) t) : x.1 ≤ t := by
  rw [Sep.cons] at h
  obtain ⟨h1, h2, h3⟩ := h
  rcases Mem.cons.1 m with m | ⟨y, hy, m⟩
  · exact m.1
  · have := h2 y hy; omega
theorem Sep.rest {x : Win} {l : List Win} (h : Sep (x :: l)) {t : Int} (m : Mem l t) : x.2 < t := by
  rw [Sep.cons] at h
  obtain ⟨y, hy, m⟩ := m
  have := h.2.1 y hy
  omega
/-- Two lists that hold the same are one. -/
theorem Sep.uniq : ∀ {a b : List Win}, Sep a → Sep b → (∀ t, Mem a t ↔ Mem b t) → a = b
  | [], [], _, _, _ => rfl
  | [], y :: b, _, hb, h => by
    have := (Sep.cons.1 hb).1
    exact absurd ((h y.1).2 (Mem.cons.2 (.inl ⟨Int.le_refl _, this⟩))) Mem.nil
  | x :: a, [], ha, _, h => by
    have := (Sep.cons.1 ha).1
    exact absurd ((h x.1).1 (Mem.cons.2 (.inl ⟨Int.le_refl _, this⟩))) Mem.nil
  | x :: a, y :: b, ha, hb, h => by
    have hx := (Sep.cons.1 ha).1
    have hy := (Sep.cons.1 hb).1
    have e1 : x.1 = y.1 := by
      have h1 := hb.first ((h x.1).1 (Mem.cons.2 (.inl ⟨Int.le_refl _, hx⟩)))
      have h2 := ha.first ((h y.1).2 (Mem.cons.2 (.inl ⟨Int.le_refl _, hy⟩)))
      omega
    have e2 : x.2 = y.2 := by
      have h1 : ¬ x.2 < y.2 := fun l => by
        have := (h x.2).2 (Mem.cons.2 (.inl ⟨by omega, l⟩))
        rcases Mem.cons.1 this with m | m
        · omega
        · have := ha.rest m; omega
      have h2 : ¬ y.2 < x.2 := fun l => by
        have := (h y.2).1 (Mem.cons.2 (.inl ⟨by omega, l⟩))
        rcases Mem.cons.1 this with m | m
        · omega
        · have := hb.rest m; omega
      omega
    have e : x = y := Prod.ext e1 e2
    subst e
    rw [Sep.uniq (Sep.cons.1 ha).2.2 (Sep.cons.1 hb).2.2 fun t => ?_]
    constructor
    · intro m
      have g := ha.rest m
      rcases Mem.cons.1 ((h t).1 (Mem.cons.2 (.inr m))) with m | m
      · omega
      · exact m
    · intro m
      have g := hb.rest m
      rcases Mem.cons.1 ((h t).2 (Mem.cons.2 (.inr m))) with m | m
      · omega
      · exact m

/-- Ascending by the beginning. -/
def Asc (l : List Win) : Prop := l.Pairwise (fun a b => a.1 ≤ b.1)
/-- The windows that are not empty. -/
def full (l : List Win) : List Win := l.filter (fun x => decide (x.1 < x.2))
theorem full_mem (l : List Win) (t : Int) : Mem (full l) t ↔ Mem l t := by
  unfold Mem full
  constructor
  · rintro ⟨x, hx, h⟩
    exact ⟨x, (List.mem_filter.1 hx).1, h⟩
  · rintro ⟨x, hx, h⟩
    exact ⟨x, List.mem_filter.2 ⟨hx, by simp; omega⟩, h⟩
theorem mem_perm {l m : List Win} (h : ∀ x, x ∈ l ↔ x ∈ m) (t : Int) : Mem l t ↔ Mem m t := by
  unfold Mem
  constructor
  · rintro ⟨x, hx, k⟩; exact ⟨x, (h x).1 hx, k⟩
  · rintro ⟨x, hx, k⟩; exact ⟨x, (h x).2 hx, k⟩
/-- What the merging loop keeps, behind k windows of an ascending list. -/
structure MInv (all : List Win) (k : Nat) (out : List Win) : Prop where
  sep : Sep out
  mem : ∀ t, Mem out t ↔ Mem (all.take k) t
  low : ∀ x ∈ out, ∀ j, k ≤ j → ∀ (h : j < all.length), x.1 ≤ all[j].1
  len : out.length ≤ k
theorem MInv.init (all : List Win) : MInv all 0 [] := ⟨⟨by simp, List.Pairwise.nil⟩, fun t => by simp, by simp, Nat.le_refl _⟩
theorem Asc.get {l : List Win} (h : Asc l) {i j : Nat} (hij : i ≤ j) (hj : j < l.length) : (l[i]'(by omega)).1 ≤ l[j].1 := by
  rcases Nat.lt_or_eq_of_le hij with h1 | rfl
  · exact List.pairwise_iff_getElem.1 h i j (by omega) hj h1
  · exact Int.le_refl _
theorem Sep.snoc {l : List Win} {x : Win} (h : Sep l) (hx : x.1 < x.2) (hl : ∀ y ∈ l, y.2 < x.1) : Sep (l ++ [x]) := by
  refine ⟨fun y hy => ?_, List.pairwise_append.2 ⟨h.2, List.pairwise_singleton _ _, fun a ha b hb => ?_⟩⟩
  · rcases List.mem_append.1 hy with hy | hy
    · exact h.1 y hy
    · rw [List.mem_singleton] at hy; subst hy; exact hx
  · rw [List.mem_singleton] at hb; subst hb; exact hl a ha
theorem Sep.init_of {l : List Win} {x : Win} (h : Sep (l ++ [x])) : Sep l ∧ x.1 < x.2 ∧ ∀ y ∈ l, y.2 < x.1 := by
  obtain ⟨h1, h2⟩ := h
  obtain ⟨p1, p2, p3⟩ := List.pairwise_append.1 h2
  exact ⟨⟨fun y hy => h1 y (List.mem_append_left _ hy), p1⟩, h1 x (by simp), fun y hy => p3 y hy x (by simp)⟩
theorem Sep.below {l : List Win} {x : Win} (h : Sep (l ++ [x])) : ∀ y ∈ l ++ [x], y.2 ≤ x.2 := by
  obtain ⟨h1, h2, h3⟩ := h.init_of
  intro y hy
  rcases List.mem_append.1 hy with hy | hy
  · have := h3 y hy; omega
  · rw [List.mem_singleton] at hy; subst hy; exact Int.le_refl _
/-- A window behind all. -/
theorem MInv.push {all out : List Win} {k : Nat} (M : MInv all k out) (ha : Asc all) (hk : k < all.length) (hf : all[k].1 < all[k].2) (hl : out = [] ∨ ∃ O l, out = O ++ [l] ∧ l.2 < all[k].1) : MInv all (k + 1) (out ++ [all[k]]) := by
  have hb : ∀ y ∈ out, y.2 < all[k].1 := by
    rcases hl with rfl | ⟨O, l, rfl, h⟩
    · simp
    · intro y hy
      have := M.sep.below y hy
      omega
  refine ⟨M.sep.snoc hf hb, fun t => ?_, ?_, by simp [M.len]⟩
  · rw [List.take_succ_eq_append_getElem hk, Mem.append, Mem.append, M.mem t]
  · intro x hx j hj h
    rcases List.mem_append.1 hx with hx | hx
    · exact M.low x hx j (by omega) h
    · rw [List.mem_singleton] at hx; subst hx; exact ha.get (by omega) h
/-- A window that joins the last one. -/
theorem MInv.join {all O : List Win} {l : Win} {k : Nat} (M : MInv all k (O ++ [l])) (hk : k < all.length) (hf : all[k].1 < all[k].2) (hl : all[k].1 ≤ l.2) : MInv all (k + 1) (O ++ [(l.1, max l.2 all[k].2)]) := by
  obtain ⟨s1, s2, s3⟩ := M.sep.init_of
  have hlow := M.low l (by simp) k (Nat.le_refl _) hk
  refine ⟨s1.snoc (by show l.1 < max l.2 _; omega) s3, fun t => ?_, ?_, by have := M.len; simp at this ⊢; omega⟩
  · rw [List.take_succ_eq_append_getElem hk, Mem.append, Mem.append, ← M.mem t, Mem.append, Mem.one, Mem.one, Mem.one, or_assoc]
    refine or_congr Iff.rfl ?_
    show (l.1 ≤ t ∧ t < max l.2 all[k].2) ↔ _
    omega
  · intro x hx j hj h
    rcases List.mem_append.1 hx with hx | hx
    · exact M.low x (List.mem_append_left _ hx) j (by omega) h
    · rw [List.mem_singleton] at hx; subst hx
      exact M.low l (by simp) j (by omega) h
/-- The least list with the instants of a list. -/
def Least (l out : List Win) : Prop := Sep out ∧ (∀ t, Mem out t ↔ Mem l t) ∧ out.length ≤ l.length
theorem Least.uniq {l a b : List Win} (h : Least l a) (k : Least l b) : a = b := h.1.uniq k.1 fun t => (h.2.1 t).trans (k.2.1 t).symm
theorem MInv.least {l all out : List Win} (M : MInv all all.length out) (h : ∀ x, x ∈ all ↔ x ∈ full l) (hn : all.length ≤ l.length) : Least l out :=
  ⟨M.sep, fun t => by rw [M.mem t, List.take_length, mem_perm h, full_mem], Nat.le_trans M.len hn⟩
/-- What the sorted windows are. -/
def Sorted (l all : List Win) : Prop := Asc all ∧ (∀ x, x ∈ all ↔ x ∈ full l) ∧ all.length ≤ l.length
theorem Sorted.full {l all : List Win} (h : Sorted l all) {k : Nat} (hk : k < all.length) : all[k].1 < all[k].2 := by
  have := (h.2.1 all[k]).1 (List.getElem_mem _)
  simpa using (List.mem_filter.1 this).2

/-- Inserting in the order of the beginnings. -/
def insW (l : List Win) (w : Win) : List Win := l.takeWhile (fun x => decide (x.1 ≤ w.1)) ++ w :: l.dropWhile (fun x => decide (x.1 ≤ w.1))
theorem insW_mem (l : List Win) (w x : Win) : x ∈ insW l w ↔ x = w ∨ x ∈ l := by
  unfold insW
  rw [List.mem_append, List.mem_cons]
  have : x ∈ l ↔ x ∈ l.takeWhile (fun x => decide (x.1 ≤ w.1)) ∨ x ∈ l.dropWhile (fun x => decide (x.1 ≤ w.1)) := by
    rw [← List.mem_append, List.takeWhile_append_dropWhile]
  rw [this]
  constructor
  · rintro (h | h | h)
    · exact .inr (.inl h)
    · exact .inl h
    · exact .inr (.inr h)
  · rintro (h | h | h)
    · exact .inr (.inl h)
    · exact .inl h
    · exact .inr (.inr h)
theorem insW_len (l : List Win) (w : Win) : (insW l w).length = l.length + 1 := by
  unfold insW
  have := congrArg List.length (List.takeWhile_append_dropWhile (p := fun x : Win => decide (x.1 ≤ w.1)) (l := l))
  rw [List.length_append] at this
  rw [List.length_append, List.length_cons]
  omega
theorem insW_asc : ∀ {l : List Win} (w : Win), Asc l → Asc (insW l w)
  | [], w, _ => List.pairwise_singleton _ _
  | x :: l, w, h => by
    obtain ⟨h1, h2⟩ := List.pairwise_cons.1 h
    by_cases hx : x.1 ≤ w.1
    · have e : insW (x :: l) w = x :: insW l w := by simp [insW, hx]
      rw [e]
      refine List.pairwise_cons.2 ⟨fun y hy => ?_, insW_asc w h2⟩
      rcases (insW_mem l w y).1 hy with rfl | hy
      · exact hx
      · exact h1 y hy
    · have e : insW (x :: l) w = w :: x :: l := by simp [insW, hx]
      rw [e]
      refine List.pairwise_cons.2 ⟨fun y hy => ?_, h⟩
      rcases List.mem_cons.1 hy with rfl | hy
      · omega
      · have := h1 y hy; omega
/-- What the inserting loop keeps, behind k windows of a list. -/
structure IInv (l : List Win) (k : Nat) (all : List Win) : Prop where
  asc : Asc all
  mem : ∀ x, x ∈ all ↔ x ∈ full (l.take k)
  len : all.length ≤ k
theorem IInv.init (l : List Win) : IInv l 0 [] := ⟨List.Pairwise.nil, by simp [full], Nat.le_refl _⟩
theorem IInv.yes {l all : List Win} {k : Nat} (h : IInv l k all) (hk : k < l.length) (hf : l[k].1 < l[k].2) : IInv l (k + 1) (insW all l[k]) := by
  refine ⟨insW_asc _ h.asc, fun x => ?_, by rw [insW_len]; have := h.len; omega⟩
  rw [insW_mem, h.mem, List.take_succ_eq_append_getElem hk]
  unfold full
  rw [List.filter_append, List.mem_append]
  have : x ∈ [l[k]].filter (fun x => decide (x.1 < x.2)) ↔ x = l[k] := by
    rw [List.filter_cons_of_pos (by simpa using hf)]; simp
  rw [this]
  exact or_comm
theorem IInv.no {l all : List Win} {k : Nat} (h : IInv l k all) (hk : k < l.length) (hf : ¬ l[k].1 < l[k].2) : IInv l (k + 1) all := by
  refine ⟨h.asc, fun x => ?_, by have := h.len; omega⟩
  rw [h.mem, List.take_succ_eq_append_getElem hk]
  unfold full
  rw [List.filter_append, List.filter_cons_of_neg (by simpa using hf)]
  simp
theorem IInv.sorted {l all : List Win} (h : IInv l l.length all) : Sorted l all := ⟨h.asc, fun x => by rw [h.mem, List.take_length], h.len⟩
end Go.Proofs.YtjjmcmchcmfgnaaDoor

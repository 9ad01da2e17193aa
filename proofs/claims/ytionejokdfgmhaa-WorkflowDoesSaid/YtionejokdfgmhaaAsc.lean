/- Ascending of the reference: what it answers. -/
import Derived.Test.YtionejokdfgmhaaRef6
namespace Go.Proofs.Ytionejokdfgmhaa
open Go.RowKit Go.Maps

theorem ListAt.take0 {α : Type} {sz : Nat} {enc : α → List Value} {w : World} {a : Option Addr} {l : List α} (h : ListAt sz enc w a l) (k : Nat) : ListAt sz enc w a (l.take k) := by
  refine ⟨?_, Nat.le_trans (by simp; omega) h.few⟩
  rcases h.cells with rfl | ⟨b, off, e, hb, hc⟩
  · exact .inl (by simp)
  · exact .inr ⟨b, off, e, hb, fun i hi => by rw [List.getElem_take]; exact hc i (by simp at hi; omega)⟩
def Srt (R : List Str) : Prop := R.Pairwise (fun x y => x < y)
theorem asc_lt {x y : Str} (h : ¬ x < y) (hne : x ≠ y) : y < x := by
  rcases Classical.em (y < x) with h2 | h2
  · exact h2
  · exact absurd (str_antisymm (List.not_lt.1 h2) (List.not_lt.1 h)) hne
def notLt (x : Str) (y : Str) : Bool := !decide (y < x)
theorem Srt.insert {R : List Str} (h : Srt R) {x : Str} {j : Nat} (hj : j ≤ R.length) (hn : NoneTo (notLt x) R j) (hx : ∀ hlt : j < R.length, x < R[j]) : Srt ((R.take j ++ [x]) ++ R.drop j) := by
  have hlow : ∀ z ∈ R.take j, z < x := fun z hz => by
    obtain ⟨i, hi, rfl⟩ := List.getElem_of_mem hz
    have hij : i < j := by simp at hi; omega
    have := hn i hij (by simp at hi; omega)
    unfold notLt at this
    simpa using this
  have hsplit : Srt (R.take j ++ R.drop j) := by rw [List.take_append_drop]; exact h
  obtain ⟨h1, h2, h3⟩ := List.pairwise_append.1 hsplit
  have hhigh : ∀ z ∈ R.drop j, x < z := fun z hz => by
    obtain ⟨i, hi, rfl⟩ := List.getElem_of_mem hz
    have hjl : j < R.length := by simp at hi; omega
    rw [List.getElem_drop]
    have h0 := hx hjl
    rcases Nat.eq_zero_or_pos i with e | e
    · subst e; exact h0
    · have := List.pairwise_iff_getElem.1 h j (j + i) hjl (by simp at hi; omega) (by omega)
      exact List.lt_trans h0 this
  refine List.pairwise_append.2 ⟨List.pairwise_append.2 ⟨h1, by simp, fun a ha b hb => ?_⟩, h2, fun a ha b hb => ?_⟩
  · simp at hb; subst hb; exact hlow a ha
  · rcases List.mem_append.1 ha with ha | ha
    · exact List.lt_trans (hlow a ha) (hhigh b hb)
    · simp at ha; subst ha; exact hhigh b hb
def SameIn (R l : List Str) (k : Nat) : Prop := ∀ z, z ∈ R ↔ z ∈ l.take k
theorem SameIn.start (l : List Str) : SameIn [] l 0 := fun z => by simp
theorem SameIn.skip {R l : List Str} {k : Nat} (h : SameIn R l k) (hk : k < l.length) (hm : l[k] ∈ R) : SameIn R l (k + 1) := fun z => by
  rw [List.take_succ_eq_append_getElem hk, List.mem_append, ← h z]
  constructor
  · exact .inl
  · rintro (e | e)
    · exact e
    · simp at e; rw [e]; exact hm
theorem SameIn.insert {R l : List Str} {k : Nat} (h : SameIn R l k) (hk : k < l.length) (j : Nat) : SameIn ((R.take j ++ [l[k]]) ++ R.drop j) l (k + 1) := fun z => by
  have h1 : z ∈ R ↔ z ∈ R.take j ∨ z ∈ R.drop j := by rw [← List.mem_append, List.take_append_drop]
  simp only [List.take_succ_eq_append_getElem hk, List.mem_append, List.mem_singleton]
  rw [← h z, h1]
  constructor
  · rintro ((e | e) | e)
    · exact .inl (.inl e)
    · exact .inr e
    · exact .inl (.inr e)
  · rintro ((e | e) | e)
    · exact .inl (.inl e)
    · exact .inr e
    · exact .inl (.inr e)
theorem asc_done {R l : List Str} (h : Srt R) (hs : SameIn R l l.length) (hl : l.Nodup) : R = sortS l := by
  have hR : R.Nodup := h.imp (fun {a b} hab e => by subst e; exact absurd hab (List.lt_irrefl a))
  have hp : R.Perm l := (List.perm_ext_iff_of_nodup hR hl).2 (fun z => by have := hs z; rwa [List.take_length] at this)
  exact sorted_eq (hp.trans (sortS_perm l).symm) (h.imp (fun {a b} hab => by exact List.le_of_lt hab)) (sortS_sorted l)
end Go.Proofs.Ytionejokdfgmhaa

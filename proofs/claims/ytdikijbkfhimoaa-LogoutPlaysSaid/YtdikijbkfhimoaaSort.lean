/- Strings of a list in order. No program. -/
import Derived.Test.YtdikijbkfhimoaaRow
import Derived.Sort.OwnSorted
import Derived.Lib.OwnBridge
namespace Go.Proofs.Ytdikijbkfhimoaa
open Go.RowKit

theorem encSOk : Enc Try.prog 9 1 16 encS :=
  ⟨fun _ => rfl, fun x v hv => by simp [encS] at hv; subst hv; rfl, by omega, by omega, by
    obtain ⟨i0, hi, h1, h2, h3⟩ := info_parts (show (Try.prog.info? 9).map (fun i => (i.zero, i.size, i.bytes)) = some (some (.string ⟨#[]⟩), 1, 16) by kernel_rfl)
    exact ⟨i0, _, hi, h1, h2, h3, rfl⟩⟩
theorem rowV_map (l : List Str) : rowV encS l = l.map sV := by
  induction l with
  | nil => rfl
  | cons a r ih => show sV a :: rowV encS r = _; rw [ih]; rfl
def sortS (l : List Str) : List Str := l.mergeSort fun x y => decide (x ≤ y)
theorem sortS_len (l : List Str) : (sortS l).length = l.length := List.length_mergeSort l
/-! ### order -/
theorem str_le_total (x y : Str) : x ≤ y ∨ y ≤ x := List.le_total x y
theorem str_le_trans {x y z : Str} (h : x ≤ y) (k : y ≤ z) : x ≤ z := List.le_trans h k
theorem str_antisymm {x y : Str} (h : x ≤ y) (k : y ≤ x) : x = y := List.le_antisymm h k
theorem sortS_perm (l : List Str) : (sortS l).Perm l := List.mergeSort_perm l _
theorem sortS_sorted (l : List Str) : (sortS l).Pairwise (fun x y => x ≤ y) := by
  have := List.pairwise_mergeSort (le := fun (x y : Str) => decide (x ≤ y)) (fun a b c h1 h2 => by simp at *; exact str_le_trans h1 h2) (fun a b => by have := str_le_total a b; simpa using this) l
  exact this.imp (fun {a b} h => by simpa using h)
/-- Two ordered lists with the same strings. -/
theorem sorted_eq {l m : List Str} (hp : l.Perm m) (hl : l.Pairwise (fun x y => x ≤ y)) (hm : m.Pairwise (fun x y => x ≤ y)) : l = m :=
  hp.eq_of_pairwise (fun _ _ _ _ h1 h2 => str_antisymm h1 h2) hl hm
theorem sortS_of_perm {l m : List Str} (h : l.Perm m) : sortS l = sortS m := sorted_eq (((sortS_perm l).trans h).trans (sortS_perm m).symm) (sortS_sorted l) (sortS_sorted m)
end Go.Proofs.Ytdikijbkfhimoaa

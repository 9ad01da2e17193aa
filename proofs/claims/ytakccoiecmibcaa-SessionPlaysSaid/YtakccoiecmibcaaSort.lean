/- slices.Sort of a list of strings in a row of the call's own; strings of a list in order. -/
import Derived.Test.YtakccoiecmibcaaShelf
import Derived.Test.YtakccoiecmibcaaRow
import Derived.Sort.OwnSorted
import Derived.Lib.OwnBridge
namespace Go.Proofs.Ytakccoiecmibcaa
open Go.RowKit

theorem encSOk : Enc Try.prog 9 1 16 encS :=
  ⟨fun _ => rfl, fun x v hv => by simp [encS] at hv; subst hv; rfl, by omega, by omega, by
    obtain ⟨i0, hi, h1, h2, h3⟩ := info_parts (show (Try.prog.info? 9).map (fun i => (i.zero, i.size, i.bytes)) = some (some (.string ⟨#[]⟩), 1, 16) by kernel_rfl)
    exact ⟨i0, _, hi, h1, h2, h3, rfl⟩⟩
theorem rowV_map (l : List Str) : rowV encS l = l.map sV := by
  induction l with
  | nil => rfl
  | cons a r ih => show sV a :: rowV encS r = _; rw [ih]; rfl
def sortS (l : List Str) : List Str := l.mergeSort fun x y => decide (x ≤ y)
theorem sortS_len (l : List Str) : (sortS l).length = l.length := List.length_mergeSort l
theorem sort_any {w : World} {a : Option Addr} {cap : Nat} {l : List Str} {w0 : World} (h : OwnL 9 1 encS w0 w a cap l) (hmax : l.length ≤ 1000000) :
    Calls Try.prog 39 #[.slice a l.length cap] w fun e w' => e = .returned (.tuple #[]) ∧ OwnL 9 1 encS w0 w' a cap (sortS l) ∧ Kept (fp a) w w' := by
  have hlen : (sortS l).length = l.length := sortS_len l
  rcases Nat.eq_zero_or_pos l.length with h0 | h0
  · have hl : l = [] := List.length_eq_zero_iff.1 h0
    subst hl
    refine (slices_Sort_string_none a cap w).mono ?_
    rintro e w' ⟨rfl, rfl⟩
    exact ⟨rfl, by rw [show sortS [] = ([] : List Str) by simp [sortS]]; exact h, Kept.refl _ _⟩
  · obtain ⟨g, cur, rfl, hg, hn, hc, hcs, htk⟩ := row_some h.row h0
    have hrow := h.row
    rw [rowV_map] at hrow
    obtain ⟨g', cap', e1, _, _, _, _, _, hH⟩ := Lib.holds_of_ownsRow (enc := encStr) (zs := l) (by exact hrow) (by intro e; injection e with e; cases e)
    injection e1 with e1 _ _; injection e1 with e1; injection e1 with e1
    subst e1
    refine (slices_Sort_string g 0 cap l w hH (lt_of_heap hg) (by omega)).mono ?_
    rintro e w' ⟨rfl, n, os, rfl⟩
    have hk : Kept [g] w (Sort.grow (Sort.putRow encStr (Sort.ahead w n) g 0 (l.mergeSort fun x y => decide (x ≤ y)).toArray) os) := Kept.of_grown (grownBy_sorted _)
    have hr := ownsRow_sorted (n := n) (os := os) (base := 0) (ts := sortS l) hlen (Nat.zero_le g) hg hn hc hcs
    refine ⟨rfl, ⟨?_, h.kept.trans hk (fun i hi => .inr (h.new i (by simpa [fp] using hi))), h.new⟩, hk⟩
    rw [rowV_map, hlen]
    exact hr

/-! ### order -/
theorem str_le_total (x y : Str) : x ≤ y ∨ y ≤ x := List.le_total x y
theorem str_le_trans {x y z : Str} (h : x ≤ y) (k : y ≤ z) : x ≤ z := List.le_trans h k
theorem str_antisymm {x y : Str} (h : x ≤ y) (k : y ≤ x) : x = y := List.le_antisymm h k
theorem sortS_perm (l : List Str) : (sortS l).Perm l := List.mergeSort_perm l _
theorem sortS_sorted (l : List Str) : (sortS l).Pairwise (fun x y => x ≤ y) := by
  have := List.pairwise_mergeSort (le := fun (x y : Str) => decide (x ≤ y)) (fun a b c h1 h2 => by simp at *; exact str_le_trans h1 h2) (fun a b => by have := str_le_total a b; simpa using this) l
  exact this.imp (fun {a b} h => by simpa using h)
/-- Two ordered lists with the same strings. -/
theorem sorted_eq {l m : List Str} (hp : l.Perm m) (hl : l.Pairwise (fun x y => x ≤ y)) (hm : m.Pairwise (fun x y => x ≤ y)) : l = m :=
  hp.eq_of_pairwise (fun _ _ _ _ h1 h2 => str_antisymm h1 h2) hl hm
theorem sortS_of_perm {l m : List Str} (h : l.Perm m) : sortS l = sortS m := sorted_eq (((sortS_perm l).trans h).trans (sortS_perm m).symm) (sortS_sorted l) (sortS_sorted m)
end Go.Proofs.Ytakccoiecmibcaa

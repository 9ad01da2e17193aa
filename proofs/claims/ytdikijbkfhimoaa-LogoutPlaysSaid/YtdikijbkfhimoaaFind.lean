/- Searching and deleting in lists: plain; and 'clear'. No program. -/
import Derived.Test.YtdikijbkfhimoaaRow
namespace Go.Proofs.Ytdikijbkfhimoaa
open Go.RowKit

section
variable {α : Type}
/-- The first place at which p holds, or -1. -/
def idx (p : α → Bool) (l : List α) : Int := match l.findIdx? p with | some i => i | none => -1
def NoneTo (p : α → Bool) (l : List α) (k : Nat) : Prop := ∀ j (_ : j < k) (hj : j < l.length), p l[j] = false
theorem NoneTo.zero (p : α → Bool) (l : List α) : NoneTo p l 0 := fun j hj => by omega
theorem NoneTo.next {p : α → Bool} {l : List α} {k : Nat} (h : NoneTo p l k) (hk : k < l.length) (hp : p l[k] = false) : NoneTo p l (k + 1) := by
  intro j hj hjl
  by_cases e : j = k
  · subst e; exact hp
  · exact h j (by omega) hjl
theorem NoneTo.all {p : α → Bool} {l : List α} {k : Nat} (h : NoneTo p l k) (hk : l.length ≤ k) : ∀ x ∈ l, p x = false := by
  intro x hx
  obtain ⟨j, hj, rfl⟩ := List.getElem_of_mem hx
  exact h j (by omega) hj
theorem idx_yes {p : α → Bool} {l : List α} {k : Nat} (h : NoneTo p l k) (hk : k < l.length) (hp : p l[k] = true) : idx p l = k := by
  unfold idx
  have : l.findIdx? p = some k := by
    rw [List.findIdx?_eq_some_iff_getElem]
    exact ⟨hk, hp, fun j hj => by simpa using h j hj (by omega)⟩
  rw [this]
theorem idx_no {p : α → Bool} {l : List α} (h : ∀ x ∈ l, p x = false) : idx p l = -1 := by
  unfold idx
  rw [List.findIdx?_eq_none_iff.2 (fun x hx => by simpa using h x hx)]
theorem idx_ge {p : α → Bool} {l : List α} : decide (0 ≤ idx p l) = l.any p := by
  unfold idx
  cases h : l.findIdx? p with
  | some i =>
    obtain ⟨hi, h1, _⟩ := List.findIdx?_eq_some_iff_getElem.1 h
    rw [show l.any p = true from List.any_eq_true.2 ⟨l[i], List.getElem_mem _, h1⟩]
    simp
  | none =>
    rw [List.findIdx?_eq_none_iff] at h
    rw [show l.any p = false from List.any_eq_false.2 (fun x hx => by simpa using h x hx)]
    rfl
theorem idx_split {p : α → Bool} {l : List α} : idx p l = -1 ∧ (∀ x ∈ l, p x = false) ∨ ∃ k, ∃ h : k < l.length, idx p l = k ∧ p l[k] = true ∧ NoneTo p l k := by
  unfold idx
  cases h : l.findIdx? p with
  | none =>
    left
    rw [List.findIdx?_eq_none_iff] at h
    exact ⟨rfl, fun x hx => by simpa using h x hx⟩
  | some i =>
    right
    obtain ⟨hi, h1, h2⟩ := List.findIdx?_eq_some_iff_getElem.1 h
    exact ⟨i, hi, rfl, h1, fun j hj hjl => by simpa using h2 j hj⟩
theorem any_no {p : α → Bool} {l : List α} {k : Nat} (h : NoneTo p l k) (hk : l.length ≤ k) : l.any p = false := List.any_eq_false.2 (fun x hx => by simpa using h.all hk x hx)
theorem any_yes {p : α → Bool} {l : List α} {k : Nat} (hk : k < l.length) (hp : p l[k] = true) : l.any p = true := List.any_eq_true.2 ⟨_, List.getElem_mem hk, hp⟩

/-- What is left when those are deleted of which p holds. -/
def delP (p : α → Bool) (l : List α) : List α := l.filter fun x => !p x
theorem delP_le (p : α → Bool) (l : List α) : (delP p l).length ≤ l.length := List.length_filter_le _ _
theorem delP_snoc (p : α → Bool) (l : List α) (k : Nat) (h : k < l.length) : delP p (l.take (k + 1)) = if p l[k] then delP p (l.take k) else delP p (l.take k) ++ [l[k]] := by
  rw [List.take_succ_eq_append_getElem h]
  unfold delP
  rw [List.filter_append]
  by_cases hc : p l[k] <;> simp [hc]
theorem delP_none {p : α → Bool} {l : List α} (h : ∀ x ∈ l, p x = false) : delP p l = l := List.filter_eq_self.2 (fun x hx => by rw [h x hx]; rfl)
theorem delP_to {p : α → Bool} {l : List α} {k : Nat} (h : NoneTo p l k) : delP p (l.take k) = l.take k := by
  refine delP_none (fun x hx => ?_)
  obtain ⟨j, hj, rfl⟩ := List.getElem_of_mem hx
  simp at hj
  simpa using h j (by omega) (by omega)

/-- The list on its way: what was kept so far, then whatever; from j on as it was. -/
structure Mix (p : α → Bool) (l mix : List α) (i j : Nat) : Prop where
  len : mix.length = l.length
  front : mix.take i = delP p (l.take j)
  back : mix.drop j = l.drop j
  lt : i < j
  le : j ≤ l.length
theorem Mix.start {p : α → Bool} {l : List α} {i : Nat} (hi : i < l.length) (hp : p l[i] = true) (hn : NoneTo p l i) : Mix p l l i (i + 1) :=
  ⟨rfl, by rw [delP_snoc p l i hi, if_pos hp]; exact (delP_to hn).symm, rfl, by omega, hi⟩
theorem Mix.get {p : α → Bool} {l mix : List α} {i j : Nat} (h : Mix p l mix i j) (hj : j < l.length) : ∃ h' : j < mix.length, mix[j] = l[j] := by
  have hl : j < mix.length := by rw [h.len]; exact hj
  refine ⟨hl, ?_⟩
  have e := congrArg (fun x => x[0]?) h.back
  simp [hl, hj] at e
  exact e
theorem Mix.skip {p : α → Bool} {l mix : List α} {i j : Nat} (h : Mix p l mix i j) (hj : j < l.length) (hp : p l[j] = true) : Mix p l mix i (j + 1) := by
  refine ⟨h.len, by rw [delP_snoc p l j hj, if_pos hp]; exact h.front, ?_, by have := h.lt; omega, hj⟩
  have e := congrArg (List.drop 1) h.back
  simpa [List.drop_drop, Nat.add_comm] using e
theorem Mix.put {p : α → Bool} {l mix : List α} {i j : Nat} (h : Mix p l mix i j) (hj : j < l.length) (hp : p l[j] = false) : Mix p l (mix.set i l[j]) (i + 1) (j + 1) := by
  have hlt := h.lt
  have hi : i < mix.length := by rw [h.len]; omega
  refine ⟨by simp [h.len], ?_, ?_, by omega, hj⟩
  · rw [delP_snoc p l j hj, if_neg (by rw [hp]; simp), ← h.front, List.take_succ_eq_append_getElem (by simpa using hi)]
    simp [List.take_set_of_le]
  · rw [List.drop_set_of_lt (by omega)]
    have e := congrArg (List.drop 1) h.back
    simpa [List.drop_drop, Nat.add_comm] using e
end

/-- 'clear' of a part of an owned block. -/
theorem run_clear_own {P : Program} (w : World) (t e ty : TypeId) (z : Value) (ht : P.underlying t = some (.slice e)) (hv : ∀ w, (zeroValue e).run P w = .ok z w) (h1 : ∀ v ∈ z.cells.toList, v.oneCell' = true) (hzs : 0 < z.cells.size) (g o n c : Nat) (hn : 0 < n) (cur : Array Value)
    (hg : w.heap[g]? = some (.cells cur e (0, 0))) (hfit : o + n * z.cells.size ≤ cur.size) :
    (Builtin.clear_ #[t] ty #[.slice (some ⟨g, o, none⟩) n c]).run P w = .ok (.tuple #[]) (w.setRow g (cur.toList.take o ++ (Builtin.zeroCells z.cells n).toList ++ cur.toList.drop (o + n * z.cells.size)).toArray) := by
  have hlen : (Builtin.zeroCells z.cells n).toList.length = n * z.cells.size := by simp [Builtin.zeroCells]
  have hone : ∀ v ∈ (Builtin.zeroCells z.cells n).toList, v.oneCell' = true := by
    intro v hv'
    simp [Builtin.zeroCells] at hv'
    obtain ⟨i, hi, rfl⟩ := hv'
    apply h1
    have hlt : i % z.cells.size < z.cells.size := Nat.mod_lt _ hzs
    rw [getElem!_pos z.cells _ hlt]
    exact Array.getElem_mem_toList _
  have hst := run_storeCells_at P g o e (Builtin.zeroCells z.cells n).toList 0 cur w hg (by rw [hlen]; simpa using hfit) hone
  simp only [Nat.add_zero, hlen] at hst
  obtain ⟨m, rfl⟩ : ∃ m, n = m + 1 := ⟨n - 1, by omega⟩
  simp [Builtin.clear_, run_underlying ht, hv, hst]
/-- A row of which the front is kept and the rest is cleared. -/
theorem row_cleared {α : Type} {P : Program} {E : TypeId} {sz bytes : Nat} {enc : α → List Value} (h : Enc P E sz bytes enc) {w0 w wr : World} {g cap i n : Nat} {cur : Array Value} {mix m : List α} {rest : List Value} {a : Option Addr} (ha : a = some ⟨g, 0, none⟩)
    (hg : wr.heap[g]? = some (.cells cur E (0, 0))) (hcs : cur.size = cap * sz) (htk : cur.toList.take (n * sz) = rowV enc mix) (hi : i ≤ n) (hn : n ≤ cap) (hc : cap ≤ maxLen) (hfr : mix.take i = m) (hm : m.length = i)
    (hrest : rest.length = cap * sz - i * sz) (hk : Kept [] w0 w) (hkw : Kept [g] w wr) (hgn : w0.heap.size ≤ g) :
    OwnL E sz enc w0 (wr.setRow g (cur.toList.take (i * sz) ++ rest).toArray) a cap m := by
  subst ha
  have hsi : i * sz ≤ n * sz := Nat.mul_le_mul_right _ hi
  have hsn : n * sz ≤ cap * sz := Nat.mul_le_mul_right _ hn
  refine ⟨⟨rowV_len h m, .inr ⟨g, cap, _, rfl, Nat.zero_le _, setRow_heap wr g cur _ _ _ hg, by omega, hc, ?_, ?_⟩⟩, ?_, fun i hi => by simp only [fp, List.mem_singleton] at hi; omega⟩
  · simp only [List.size_toArray, List.length_append, List.length_take, Array.length_toList, hrest, hcs]
    omega
  · rw [hm]
    show List.take (i * sz) (cur.toList.take (i * sz) ++ rest) = _
    rw [List.take_append_of_le_length (by rw [List.length_take, Array.length_toList, hcs]; omega), List.take_take, Nat.min_self]
    rw [show cur.toList.take (i * sz) = (cur.toList.take (n * sz)).take (i * sz) by rw [List.take_take, Nat.min_eq_left hsi], htk, rowV_take h, hfr]
  · exact (hk.trans hkw (by simp; omega)).grown (row := some g) ⟨rfl, rfl, rfl, by simp, fun k _ hk => setRow_other wr g k _ (fun e => hk (by rw [e]))⟩ (fun i hi => by injection hi with hi; right; omega)
end Go.Proofs.Ytdikijbkfhimoaa

/- Contract: slices.SortFunc over windows, by their beginnings. -/
import Derived.Test.YtjjmcmchcmfgnaaDoorSortF
import Derived.Test.YtjjmcmchcmfgnaaDoorShelf
import Derived.Test.YtjjmcmchcmfgnaaDoorDel2
import Derived.Shelf.SlSortCmp.WholeK
import Derived.Shelf.SlSortCmp.NoneTotal
import Derived.Sort.OwnSorted
namespace Go.Proofs.YtjjmcmchcmfgnaaDoor
open Go.RowKit Go.Sort

/-! ### rows of two cells -/
theorem flat_get (l : List Win) (t : Nat) (h : t < l.length * 2) : (flatK encW 2 l.toArray)[t]! = (rowV encW l)[t]! := by
  rw [get_flatK _ _ _ _ (by simpa using h)]
  have ht : t / 2 < l.length := by omega
  have hr := rowV_get encWOk l (t / 2) (t % 2) ht (by omega)
  rw [show t / 2 * 2 + t % 2 = t by omega] at hr
  have e1 : (l.toArray)[t / 2]! = l[t / 2] := by simp [ht]
  rw [e1, List.getElem!_eq_getElem?_getD, List.getElem!_eq_getElem?_getD, hr]
theorem flat_row (l : List Win) : (flatK encW 2 l.toArray).toList = rowV encW l := by
  have hl := rowV_len encWOk l
  refine List.ext_getElem (by rw [hl]; simp) fun t h1 h2 => ?_
  have ht : t < l.length * 2 := by simpa using h1
  have := flat_get l t ht
  rw [getElem!_pos _ t (by simpa using ht), getElem!_pos _ t h2] at this
  simpa using this
theorem holds_win {w : World} {g cap : Nat} {cur : Array Value} {e : TypeId} {l : List Win} (hb : w.heap[g]? = some (.cells cur e (0, 0))) (ht : cur.toList.take (l.length * 2) = rowV encW l) (_ : l.length ≤ cap) : HoldsK encW 2 w g 0 l.toArray := by
  intro j hj
  have hj' : j < l.length * 2 := by simpa using hj
  refine ⟨?_, by simp [World.frozen?, hb]⟩
  have hr := rowV_len encWOk l
  have h1 : (cur.toList.take (l.length * 2))[j]? = (rowV encW l)[j]? := by rw [ht]
  rw [List.getElem?_take_of_lt hj'] at h1
  rw [Nat.zero_add, cell_at hb, ← Array.getElem?_toList, h1, flat_get l j hj', getElem!_pos _ j (by omega)]
  simp
theorem heap_put {w : World} {g n : Nat} {os : Array Obj} {cur : Array Value} {e : TypeId} {fr : Nat × Nat} (F : Array Value) (hb : w.heap[g]? = some (.cells cur e fr)) :
    (grow (putRow id (Sort.ahead w n) g 0 F) os).heap[g]? = some (.cells (putCells id 0 F cur) e fr) := by
  have hg : g < w.heap.size := (Array.getElem?_eq_some_iff.1 hb).1
  rw [heap_grow_old _ _ (by simpa using hg)]
  simp [putRow, mapBlock, Sort.ahead, Array.getElem?_modify, hb, onCells]
theorem kept_put (w : World) (g n : Nat) (os : Array Obj) (F : Array Value) : Kept [g] w (grow (putRow id (Sort.ahead w n) g 0 F) os) := by
  refine ⟨rfl, rfl, rfl, by simp, fun k hk hne => ?_⟩
  rw [heap_grow_old _ _ (by simpa using hk)]
  have : g ≠ k := fun e => hne (by simp [e])
  simp [putRow, mapBlock, Sort.ahead, Array.getElem?_modify, this]
theorem take_put (cur F : Array Value) (h : F.size ≤ cur.size) : (putCells id 0 F cur).toList.take F.size = F.toList := by
  apply List.ext_getElem?
  intro j
  by_cases hj : j < F.size
  · rw [List.getElem?_take_of_lt hj, Array.getElem?_toList]
    simp [putCells, hj, show j < cur.size by omega]
  · rw [List.getElem?_take_eq_none (by omega), List.getElem?_eq_none (by simp; omega)]
theorem own_sorted {w0 w : World} {g cap n : Nat} {os : Array Obj} {cur : Array Value} {l m : List Win} (hl : m.length = l.length) (hb : w.heap[g]? = some (.cells cur 27 (0, 0))) (h1 : l.length ≤ cap) (h2 : cap ≤ maxLen) (h3 : cur.size = cap * 2)
    (hk : Kept [] w0 w) (hg : w0.heap.size ≤ g) : OwnW w0 (grow (putRow id (Sort.ahead w n) g 0 (flatK encW 2 m.toArray)) os) (some ⟨g, 0, none⟩) cap m := by
  have hF : (flatK encW 2 m.toArray).size = m.length * 2 := by simp
  refine ⟨⟨rowV_len encWOk m, .inr ⟨g, cap, _, rfl, Nat.zero_le _, heap_put _ hb, by omega, h2, by simp [putCells, h3], ?_⟩⟩, ?_, fun i hi => by simp only [fp, List.mem_singleton] at hi; omega⟩
  · rw [← flat_row, ← hF]
    exact take_put cur _ (by rw [hF]; omega)
  · exact hk.trans (kept_put _ _ _ _ _) (fun i hi => by simp at hi; right; omega)
/-! ### the order -/
theorem ltW (x y : Win) : ltOf (fun x y : Win => Lib.compareInt x.1 y.1) x y = decide (x.1 < y.1) := by
  unfold ltOf Lib.compareInt
  by_cases h1 : x.1 < y.1
  · simp [h1]
  · by_cases h2 : y.1 < x.1 <;> simp [h1, h2]
theorem swoW : SWO (ltOf fun x y : Win => Lib.compareInt x.1 y.1) where
  irrefl x := by rw [ltW]; simp
  trans x y z h1 h2 := by rw [ltW] at *; simp at *; omega
  ntrans x y z h1 h2 := by rw [ltW] at *; simp at *; omega
set_option maxHeartbeats 1000000 in
theorem union2_any (x y : Win) (W : World) : Calls Tryd.prog 35 #[.agg #[.int .i64 x.1, .int .i64 x.2], .agg #[.int .i64 y.1, .int .i64 y.2]] W fun e w' => e = .returned (.int .i64 (Lib.compareInt x.1 y.1)) ∧ ∃ q os', w' = grow (W.drewN q) os' := by
  have hcon := fun W' => cmp_Compare_int x.1 y.1 W'
  generalize Lib.compareInt x.1 y.1 = r at hcon ⊢
  go_enter Tryd.func35, Tryd.ntmps35
  go_wp2_with (go_at_call 36; refine (hcon _).mono ?_; rintro e w' ⟨rfl, rfl⟩)
  go_ret
  exact ⟨rfl, 0, _, by rw [alloc_eq_grow, alloc_eq_grow, grow_grow]; rfl⟩
theorem sort_any {w0 w : World} {a : Option Addr} {cap : Nat} {l : List Win} (h : OwnW w0 w a cap l) (hlen : l.length ≤ 100000) :
    Calls Tryd.prog 34 #[.slice a l.length cap, .func (.func 35) #[] #[]] w fun e w' => e = .returned (.tuple #[]) ∧ ∃ m, OwnW w0 w' a cap m ∧ m.length = l.length ∧ Asc m ∧ ∀ x, x ∈ m ↔ x ∈ l := by
  rcases Nat.eq_zero_or_pos l.length with h0 | h0
  · have hl : l = [] := List.length_eq_zero_iff.1 h0
    subst hl
    refine (AnyF.slices_SortFunc_none laysSort a cap _ w).mono ?_
    rintro e w' ⟨rfl, rfl⟩
    exact ⟨rfl, [], h, rfl, List.Pairwise.nil, fun _ => Iff.rfl⟩
  · obtain ⟨g, cur, rfl, hg, hn, hc, hcs, htk⟩ := row_some h.row h0
    have eg : ∀ args w, (callFunc 35 args).run Tryd.prog w = .ok (.enter 35 args) w := enters_of Tryd.func35 (by kernel_rfl) rfl
    have hcon := AnyQ.slices_SortFunc laysSort 2 Tryd.isAgg27 Tryd.sizeOf27 encW (fun _ => rfl) (fun x v hv => by simp [encW] at hv; rcases hv with rfl | rfl <;> rfl) (fun x y => Lib.compareInt x.1 y.1) swoW 35 #[] g 0 cap l.toArray w eg
      (fun _ _ _ _ x y => union2_any x y _) (holds_win hg htk hn) (lt_of_heap hg) (by simp; omega)
    refine Calls.mono hcon ?_
    rintro e w' ⟨rfl, d', n, os, ⟨p1, p2, p3⟩, hs, rfl⟩
    obtain ⟨m, rfl⟩ : ∃ m : List Win, d' = m.toArray := ⟨d'.toList, by simp⟩
    have hml : m.length = l.length := by simpa using p1
    have hp : m.Perm l := by
      simp only [List.size_toArray, List.extract_toArray, List.extract_eq_take_drop, List.drop_zero, Nat.sub_zero] at p3
      rw [List.take_of_length_le (by omega), List.take_of_length_le (by omega)] at p3
      exact p3
    refine ⟨rfl, m, own_sorted hml hg hn hc hcs h.kept (h.new g (by simp [fp])), hml, ?_, fun x => hp.mem_iff⟩
    refine List.pairwise_iff_getElem.2 fun i j hi hj hij => ?_
    have := hs i j (Nat.zero_le _) hij (by simpa [← hml] using hj)
    rw [ltW] at this
    simp [hi, hj] at this
    exact this
end Go.Proofs.YtjjmcmchcmfgnaaDoor

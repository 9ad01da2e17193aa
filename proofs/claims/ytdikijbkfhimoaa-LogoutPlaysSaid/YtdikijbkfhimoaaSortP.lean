/- Contract: slices.SortFunc over pairs, by their keys, then by their values. -/
import Derived.Test.YtdikijbkfhimoaaSortF
import Derived.Test.YtdikijbkfhimoaaShelf
import Derived.Test.YtdikijbkfhimoaaGiven
import Derived.Shelf.SlSortCmp.WholeK
import Derived.Shelf.SlSortCmp.NoneTotal
import Derived.Sort.OwnSorted
namespace Go.Proofs.Ytdikijbkfhimoaa
open Go.RowKit Go.Sort

abbrev Pr := Str × Str
def encPr (x : Pr) : List Value := [sV x.1, sV x.2]
theorem encPrOk : Enc Try.prog 48 2 32 encPr :=
  ⟨fun _ => rfl, fun x v hv => by simp [encPr] at hv; rcases hv with rfl | rfl <;> rfl, by omega, by omega, by
    obtain ⟨i0, hi, h1, h2, h3⟩ := info_parts (show (Try.prog.info? 48).map (fun i => (i.zero, i.size, i.bytes)) = some (some (.agg #[.string ⟨#[]⟩, .string ⟨#[]⟩]), 2, 32) by kernel_rfl)
    exact ⟨i0, _, hi, h1, h2, h3, rfl⟩⟩
abbrev PrsAt (w : World) (a : Option Addr) (l : List Pr) : Prop := ListAt 2 encPr w a l
abbrev OwnPr (w0 w : World) (a : Option Addr) (cap : Nat) (l : List Pr) : Prop := OwnL 48 2 encPr w0 w a cap l
/-! ### rows of two cells -/
theorem flat_get (l : List Pr) (t : Nat) (h : t < l.length * 2) : (flatK encPr 2 l.toArray)[t]! = (rowV encPr l)[t]! := by
  rw [get_flatK _ _ _ _ (by simpa using h)]
  have ht : t / 2 < l.length := by omega
  have hr := rowV_get encPrOk l (t / 2) (t % 2) ht (by omega)
  rw [show t / 2 * 2 + t % 2 = t by omega] at hr
  have e1 : (l.toArray)[t / 2]! = l[t / 2] := by simp [ht]
  rw [e1, List.getElem!_eq_getElem?_getD, List.getElem!_eq_getElem?_getD, hr]
theorem flat_row (l : List Pr) : (flatK encPr 2 l.toArray).toList = rowV encPr l := by
  have hl := rowV_len encPrOk l
  refine List.ext_getElem (by rw [hl]; simp) fun t h1 h2 => ?_
  have ht : t < l.length * 2 := by simpa using h1
  have := flat_get l t ht
  rw [getElem!_pos _ t (by simpa using ht), getElem!_pos _ t h2] at this
  simpa using this
theorem holds_pr {w : World} {g cap : Nat} {cur : Array Value} {e : TypeId} {l : List Pr} (hb : w.heap[g]? = some (.cells cur e (0, 0))) (ht : cur.toList.take (l.length * 2) = rowV encPr l) (_ : l.length ≤ cap) : HoldsK encPr 2 w g 0 l.toArray := by
  intro j hj
  have hj' : j < l.length * 2 := by simpa using hj
  refine ⟨?_, by simp [World.frozen?, hb]⟩
  have hr := rowV_len encPrOk l
  have h1 : (cur.toList.take (l.length * 2))[j]? = (rowV encPr l)[j]? := by rw [ht]
  rw [List.getElem?_take_of_lt hj'] at h1
  rw [Nat.zero_add, cell_at hb, ← Array.getElem?_toList, h1, flat_get l j hj', getElem!_pos _ j (by omega)]
  simp
theorem heap_put {w : World} {g n : Nat} {os : Array Obj} {cur : Array Value} {e : TypeId} {fr : Nat × Nat} (F : Array Value) (hb : w.heap[g]? = some (.cells cur e fr)) :
    (grow (putRow id (Sort.ahead w n) g 0 F) os).heap[g]? = some (.cells (putCells id 0 F cur) e fr) := by
  have hg : g < w.heap.size := (Array.getElem?_eq_some_iff.1 hb).1
  rw [heap_grow_old _ _ (by simpa using hg)]
  simp [putRow, mapBlock, Sort.ahead, Array.getElem?_modify, hb, onCells]
theorem kept_put (w : World) (g n : Nat) (os : Array Obj) (F : Array Value) : Kept [g] w (grow (putRow id (Sort.ahead w n) g 0 F) os) := by
  refine ⟨rfl, rfl, rfl, by simp, fun k hk hne => ?_⟩
  rw [heap_grow_old _ _ (by simpa using hk)]
  have : g ≠ k := fun e => hne (by simp [e])
  simp [putRow, mapBlock, Sort.ahead, Array.getElem?_modify, this]
theorem take_put (cur F : Array Value) (h : F.size ≤ cur.size) : (putCells id 0 F cur).toList.take F.size = F.toList := by
  apply List.ext_getElem?
  intro j
  by_cases hj : j < F.size
  · rw [List.getElem?_take_of_lt hj, Array.getElem?_toList]
    simp [putCells, hj, show j < cur.size by omega]
  · rw [List.getElem?_take_eq_none (by omega), List.getElem?_eq_none (by simp; omega)]
theorem own_sorted {w0 w : World} {g cap n : Nat} {os : Array Obj} {cur : Array Value} {l m : List Pr} (hl : m.length = l.length) (hb : w.heap[g]? = some (.cells cur 48 (0, 0))) (h1 : l.length ≤ cap) (h2 : cap ≤ maxLen) (h3 : cur.size = cap * 2)
    (hk : Kept [] w0 w) (hg : w0.heap.size ≤ g) : OwnPr w0 (grow (putRow id (Sort.ahead w n) g 0 (flatK encPr 2 m.toArray)) os) (some ⟨g, 0, none⟩) cap m := by
  have hF : (flatK encPr 2 m.toArray).size = m.length * 2 := by simp
  refine ⟨⟨rowV_len encPrOk m, .inr ⟨g, cap, _, rfl, Nat.zero_le _, heap_put _ hb, by omega, h2, by simp [putCells, h3], ?_⟩⟩, ?_, fun i hi => by simp only [fp, List.mem_singleton] at hi; omega⟩
  · rw [← flat_row, ← hF]
    exact take_put cur _ (by rw [hF]; omega)
  · exact hk.trans (kept_put _ _ _ _ _) (fun i hi => by simp at hi; right; omega)
/-! ### the order -/
theorem cmpB_lt : ∀ (a b : Str), Lib.compareBytes a b < 0 ↔ a < b
  | [], [] => by simp [Lib.compareBytes]
  | [], _ :: _ => by simp [Lib.compareBytes]
  | _ :: _, [] => by simp [Lib.compareBytes]
  | a :: l, b :: m => by
    rw [List.cons_lt_cons_iff]
    unfold Lib.compareBytes
    by_cases h1 : a < b
    · simp [h1]
    · by_cases h2 : b < a
      · have hne : a ≠ b := fun e => by rw [e] at h2; exact (UInt8.lt_irrefl _) h2
        simp [h1, h2, hne]
      · have e : a = b := UInt8.le_antisymm (UInt8.not_lt.1 h2) (UInt8.not_lt.1 h1)
        subst e
        simp [cmpB_lt l m]
instance (x y : Pr) : Decidable (pairLt x y) := by unfold pairLt; infer_instance
def cmpP (x y : Pr) : Int := if x.1 = y.1 then Lib.compareBytes x.2 y.2 else Lib.compareBytes x.1 y.1
theorem ltP (x y : Pr) : ltOf cmpP x y = decide (pairLt x y) := by
  unfold ltOf cmpP pairLt
  by_cases h : x.1 = y.1
  · simp only [if_pos h, cmpB_lt]
    simp [h]
    intro hx
    exact absurd hx (List.lt_irrefl _)
  · simp only [if_neg h, cmpB_lt]
    simp [h]
theorem pairLt_trans {x y z : Pr} (h1 : pairLt x y) (h2 : pairLt y z) : pairLt x z := by
  rcases h1 with h1 | ⟨e1, h1⟩
  · rcases h2 with h2 | ⟨e2, h2⟩
    · exact .inl (List.lt_trans h1 h2)
    · exact .inl (by rw [← e2]; exact h1)
  · rcases h2 with h2 | ⟨e2, h2⟩
    · exact .inl (by rw [e1]; exact h2)
    · exact .inr ⟨e1.trans e2, List.lt_trans h1 h2⟩
theorem pairLt_tri (x y : Pr) : pairLt x y ∨ x = y ∨ pairLt y x := by
  by_cases h : x.1 = y.1
  · by_cases h2 : x.2 = y.2
    · exact .inr (.inl (Prod.ext h h2))
    · rcases Decidable.em (x.2 < y.2) with h3 | h3
      · exact .inl (.inr ⟨h, h3⟩)
      · refine .inr (.inr (.inr ⟨h.symm, ?_⟩))
        rcases List.le_total x.2 y.2 with h4 | h4
        · exact absurd (List.le_antisymm h4 (List.not_lt.1 h3)) h2
        · exact Decidable.byContradiction fun h5 => h2 (List.le_antisymm (List.not_lt.1 h5) h4)
  · rcases Decidable.em (x.1 < y.1) with h3 | h3
    · exact .inl (.inl h3)
    · refine .inr (.inr (.inl ?_))
      exact Decidable.byContradiction fun h5 => h (List.le_antisymm (List.not_lt.1 h5) (List.not_lt.1 h3))
theorem pairLt_irrefl (x : Pr) : ¬ pairLt x x := by
  rintro (h | ⟨_, h⟩) <;> exact List.lt_irrefl _ h
theorem swoP : SWO (ltOf cmpP) where
  irrefl x := by rw [ltP]; simpa using pairLt_irrefl x
  trans x y z h1 h2 := by rw [ltP] at *; simp at *; exact pairLt_trans h1 h2
  ntrans x y z h1 h2 := by
    rw [ltP] at *
    simp at *
    intro h3
    rcases pairLt_tri x y with h | h | h
    · exact h1 h
    · subst h; exact h2 h3
    · exact h2 (pairLt_trans h h3)
set_option maxHeartbeats 1000000 in
theorem due2_any (x y : Pr) (W : World) : Calls Try.prog 43 #[.agg #[sV x.1, sV x.2], .agg #[sV y.1, sV y.2]] W fun e w' => e = .returned (.int .i64 (cmpP x y)) ∧ ∃ q os', w' = grow (W.drewN q) os' := by
  obtain ⟨x1, x2⟩ := x
  obtain ⟨y1, y2⟩ := y
  dsimp only
  have hcon := fun a b W' => strings_Compare a b W'
  by_cases h : x1 = y1
  · subst h
    have E := hid (show cmpP (x1, x2) (x1, y2) = Lib.compareBytes x2 y2 by unfold cmpP; simp)
    have HC := hid (fun W' => strings_Compare ⟨x2.toArray⟩ ⟨y2.toArray⟩ W')
    rw [E.out]
    simp only at HC
    generalize Lib.compareBytes x2 y2 = r at *
    unfold sV
    go_enter Try.func43, Try.ntmps43
    go_wp2_with (go_at_call 44; refine (HC.out _).mono ?_; rintro e w' ⟨rfl, rfl⟩)
    go_ret
    exact ⟨rfl, 0, _, by rw [alloc_eq_grow, alloc_eq_grow, grow_grow]; rfl⟩
  · have E := hid (show cmpP (x1, x2) (y1, y2) = Lib.compareBytes x1 y1 by unfold cmpP; simp [h])
    have HC := hid (fun W' => strings_Compare ⟨x1.toArray⟩ ⟨y1.toArray⟩ W')
    rw [E.out]
    simp only at HC
    have hne : ((⟨x1.toArray⟩ : ByteArray).toList == (⟨y1.toArray⟩ : ByteArray).toList) = false := by rw [ByteArray.toList_eq, ByteArray.toList_eq]; simpa using h
    have hne2 : (x1 == y1) = false := by simpa using h
    generalize Lib.compareBytes x1 y1 = r at *
    unfold sV
    go_enter Try.func43, Try.ntmps43
    go_wp2_with (go_at_call 44; refine (HC.out _).mono ?_; rintro e w' ⟨rfl, rfl⟩)
    go_ret
    exact ⟨rfl, 0, _, by rw [alloc_eq_grow, alloc_eq_grow, grow_grow]; rfl⟩
theorem sortP_any {w0 w : World} {a : Option Addr} {cap : Nat} {l : List Pr} (h : OwnPr w0 w a cap l) (hlen : l.length ≤ 100000) :
    Calls Try.prog 42 #[.slice a l.length cap, .func (.func 43) #[] #[]] w fun e w' => e = .returned (.tuple #[]) ∧ ∃ m, OwnPr w0 w' a cap m ∧ m.length = l.length ∧ m.Pairwise (fun x y => ¬ pairLt y x) ∧ m.Perm l ∧ Kept (fp a) w w' := by
  rcases Nat.eq_zero_or_pos l.length with h0 | h0
  · have hl : l = [] := List.length_eq_zero_iff.1 h0
    subst hl
    refine (AnyF.slices_SortFunc_none laysSort a cap _ w).mono ?_
    rintro e w' ⟨rfl, rfl⟩
    exact ⟨rfl, [], h, rfl, List.Pairwise.nil, List.Perm.refl _, Kept.refl _ _⟩
  · obtain ⟨g, cur, rfl, hg, hn, hc, hcs, htk⟩ := row_some h.row h0
    have eg : ∀ args w, (callFunc 43 args).run Try.prog w = .ok (.enter 43 args) w := enters_of Try.func43 (by kernel_rfl) rfl
    have hcon := AnyQ.slices_SortFunc laysSort 2 Try.isAgg48 Try.sizeOf48 encPr (fun _ => rfl) (fun x v hv => by simp [encPr] at hv; rcases hv with rfl | rfl <;> rfl) cmpP swoP 43 #[] g 0 cap l.toArray w eg
      (fun _ _ _ _ x y => due2_any x y _) (holds_pr hg htk hn) (lt_of_heap hg) (by simp; omega)
    refine Calls.mono hcon ?_
    rintro e w' ⟨rfl, d', n, os, ⟨p1, p2, p3⟩, hs, rfl⟩
    obtain ⟨m, rfl⟩ : ∃ m : List Pr, d' = m.toArray := ⟨d'.toList, by simp⟩
    have hml : m.length = l.length := by simpa using p1
    have hp : m.Perm l := by
      simp only [List.size_toArray, List.extract_toArray, List.extract_eq_take_drop, List.drop_zero, Nat.sub_zero] at p3
      rw [List.take_of_length_le (by omega), List.take_of_length_le (by omega)] at p3
      exact p3
    refine ⟨rfl, m, own_sorted hml hg hn hc hcs h.kept (h.new g (by simp [fp])), hml, ?_, hp, kept_put w g n os _⟩
    refine List.pairwise_iff_getElem.2 fun i j hi hj hij => ?_
    have := hs i j (Nat.zero_le _) hij (by simpa [← hml] using hj)
    rw [ltP] at this
    simp [hi, hj] at this
    exact this
end Go.Proofs.Ytdikijbkfhimoaa

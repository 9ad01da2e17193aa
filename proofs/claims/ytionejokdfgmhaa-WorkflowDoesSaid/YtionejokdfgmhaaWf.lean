/- Workflows in memory; New, made, State, pending. -/
import Derived.Test.YtionejokdfgmhaaSteps
import Derived.Test.YtionejokdfgmhaaLeaf
namespace Go.Proofs.Ytionejokdfgmhaa
open Go.RowKit Go.Maps

abbrev Wfs := List (Str × Proc)
abbrev PXs := List (Str × PP)
def absW (X : PXs) : Wfs := X.map fun p => (p.1, p.2.x)
theorem absW_look (X : PXs) (k : Str) : alook (absW X) k = (alook X k).map PP.x := by
  induction X with
  | nil => rfl
  | cons a r ih =>
    show alook ((a.1, a.2.x) :: absW r) k = _
    rw [alook_cons, alook_cons, ih]
    by_cases h : a.1 = k
    · rw [if_pos h, if_pos h]; rfl
    · rw [if_neg h, if_neg h]
theorem absW_len (X : PXs) : (absW X).length = X.length := List.length_map _
theorem absW_app (X : PXs) (k : Str) (q : PP) : absW (X ++ [(k, q)]) = absW X ++ [(k, q.x)] := by simp [absW]
theorem absW_put (X : PXs) (k : Str) (q : PP) : absW (aput X k q) = aput (absW X) k q.x := by
  unfold aput
  rw [absW_look]
  cases alook X k with
  | none => simp [absW]
  | some y =>
    simp only [Option.isSome_some, if_true, Option.map_some, absW, List.map_map]
    apply List.map_congr_left
    intro p _
    by_cases h : p.1 = k <;> simp [h]
theorem absW_uniq {X : PXs} (h : AUniq X) : AUniq (absW X) := by
  unfold AUniq absW at *
  rw [List.pairwise_map]
  exact h

/-- How many approvals the steps ahead of the current one took, and this one so far. -/
def doneN (x : Proc) : Nat := ((x.steps.take x.step).map (·.2.toNat)).sum + x.count
/-- What is always so. -/
structure Inv (x : Proc) : Prop where
  len1 : 1 ≤ x.steps.length
  len8 : x.steps.length ≤ 8
  need : ∀ s ∈ x.steps, wordB s.1 = true ∧ 1 ≤ s.2 ∧ s.2 ≤ 8
  step : x.step ≤ x.steps.length
  count : ∀ h : x.step < x.steps.length, (x.count : Int) < x.steps[x.step].2
  done : x.step = x.steps.length → x.count = 0
  appr : x.appr.length = doneN x
theorem sum_le8 (l : List Stp) (h : ∀ s ∈ l, s.2 ≤ 8) : (l.map (·.2.toNat)).sum ≤ 8 * l.length := by
  induction l with
  | nil => simp
  | cons a r ih =>
    have := h a (by simp)
    have := ih (fun s hs => h s (by simp [hs]))
    simp only [List.map_cons, List.sum_cons, List.length_cons]
    omega
theorem Inv.few {x : Proc} (h : Inv x) : x.appr.length ≤ 80 := by
  have h1 := sum_le8 (x.steps.take x.step) (fun s hs => (h.need s (List.mem_of_mem_take hs)).2.2)
  have h2 := h.len8
  have h3 := h.appr
  have h4 := h.step
  have h5 : x.count ≤ 8 := by
    by_cases e : x.step < x.steps.length
    · have := h.count e
      have := (h.need _ (List.getElem_mem e)).2.2
      omega
    · have := h.done (by omega); omega
  rw [h3]
  unfold doneN
  rw [List.length_take] at h1
  omega
/-- The workflows of the program. -/
structure WfAt (w : World) (wb mb : Nat) (X : PXs) : Prop where
  blk : w.heap[wb]? = some (.cells #[.map (some mb)] 58 (0, 0))
  map : PMap Try.prog 9 ProcAt pdm PP.p w mb X
  out : wb ∉ pdom pdm mb X
  len : X.length ≤ 256
  inv : ∀ p ∈ X, Inv p.2.x
def wdom (wb mb : Nat) (X : PXs) : List Nat := wb :: pdom pdm mb X
theorem WfAt.kept {S : List Nat} {w w' : World} {wb mb : Nat} {X : PXs} (h : WfAt w wb mb X) (k : Kept S w w') (hS : ∀ i ∈ wdom wb mb X, i ∉ S) : WfAt w' wb mb X :=
  ⟨k.at h.blk (hS wb (by simp [wdom])), h.map.kept procLaw k (fun i hi => hS i (by simp [wdom, hi])), h.out, h.len, h.inv⟩
theorem WfAt.keptN {w w' : World} {wb mb : Nat} {X : PXs} (h : WfAt w wb mb X) (k : Kept [] w w') : WfAt w' wb mb X := h.kept k (by simp)
theorem WfAt.lt {w : World} {wb mb : Nat} {X : PXs} (h : WfAt w wb mb X) : ∀ i ∈ wdom wb mb X, i < w.heap.size := by
  intro i hi
  rcases List.mem_cons.1 hi with e | hi
  · rw [e]; exact lt_of_heap h.blk
  · exact h.map.lt procLaw i hi
theorem WfAt.c0 {w : World} {wb mb : Nat} {X : PXs} (h : WfAt w wb mb X) : w.cell? ⟨wb, 0, none⟩ = some (.map (some mb)) := by rw [cell_at h.blk]; rfl
theorem zeroPtr (w : World) : (zeroValue 66).run Try.prog w = .ok (.pointer none) w := by kernel_rfl
theorem WfAt.look {w : World} {wb mb : Nat} {X : PXs} (h : WfAt w wb mb X) (s : ByteArray) (hs : s.size ≤ maxLen) :
    (Instr.lookup 56 (.map (some mb)) (.string s) false).run Try.prog w = .ok (pval PP.p (alook X s.data.toList)) w :=
  h.map.look lawS Try.underlying9 Try.underlying56 zeroPtr s hs
theorem WfAt.lenrun {w : World} {wb mb : Nat} {X : PXs} (h : WfAt w wb mb X) (ty : TypeId) : (Builtin.len_ #[56] ty #[.map (some mb)]).run Try.prog w = .ok (.int .i64 X.length) w :=
  h.map.len Try.underlying56 ty
/-- What a writing call leaves. -/
def Left (w w' : World) (wb mb : Nat) (X : PXs) (U' : Wfs) : Prop := ∃ X', WfAt w' wb mb X' ∧ absW X' = U' ∧ Kept (wdom wb mb X) w w' ∧ ∀ i ∈ wdom wb mb X', i ∈ wdom wb mb X ∨ w.heap.size ≤ i
theorem Left.same {w w' : World} {wb mb : Nat} {X : PXs} (h : WfAt w wb mb X) (k : Kept [] w w') : Left w w' wb mb X (absW X) :=
  ⟨X, h.keptN k, rfl, k.mono (by simp), fun _ hi => .inl hi⟩

set_option maxHeartbeats 400000 in
theorem new_wf (w : World) :
    Calls Try.prog 9 #[] w fun e w' => e = .returned (.pointer (some ⟨w.heap.size + 1, 0, none⟩)) ∧ WfAt w' (w.heap.size + 1) w.heap.size [] ∧ Kept [] w w' ∧ w'.heap.size = w.heap.size + 2 := by
  have hmm := @run_makeMap Try.prog
  go_enter Try.func9, Try.ntmps9
  go_wp2
  go_ret
  refine ⟨rfl, ⟨?_, ⟨(RawMap.made w).kept ((Kept.refl [] _).alloc _) (by simp), by simp, List.Pairwise.nil⟩, by simp [pdom], by simp, by simp⟩, ((Kept.refl [] w).alloc _).alloc _, by simp⟩
  have := heap_alloc_new (w.alloc (.map #[] 0)) (.cells #[.map (some w.heap.size)] 58 (0, 0))
  simpa using this
set_option maxHeartbeats 400000 in
theorem made_any {w : World} {wb mb : Nat} (c0 : w.cell? ⟨wb, 0, none⟩ = some (.map (some mb))) :
    Calls Try.prog 35 #[.pointer (some ⟨wb, 0, none⟩)] w fun e w' => e = .returned (.bool true) ∧ w = w' := by
  have hn : ∀ (w : World) (r : Option Nat), (binOp .neq 56 (.map r) (.map none)).run Try.prog w = .ok (.bool (!r.isNone)) w := fun w r => run_neq_map_nil w _ _ _ r Try.underlying56
  go_enter Try.func35, Try.ntmps35
  go_wp2
  go_ret
  exact ⟨rfl, rfl⟩

/-! ### State -/
def stR (U : Wfs) (k : Str) (now : Int) : Str × Nat := match alook U k with
  | none => ([], 0)
  | some x => (stS x (lim now), x.step)
set_option maxHeartbeats 1000000 in
theorem statew_any {w : World} {wb mb : Nat} {X : PXs} (h : WfAt w wb mb X) (s : ByteArray) (hs : s.size ≤ maxLen) (now : Int) :
    Calls Try.prog 16 #[.pointer (some ⟨wb, 0, none⟩), .string s, .int .i64 now] w fun e w' => e = .returned (.tuple #[sV (stR (absW X) s.data.toList now).1, .int .i64 ((stR (absW X) s.data.toList now).2 : Nat)]) ∧ DrewN w w' := by
  have c0 := h.c0
  have hl := h.look s hs
  cases hq : alook X s.data.toList with
  | none =>
    have E := hid (show stR (absW X) s.data.toList now = ([], 0) by unfold stR; rw [absW_look, hq]; rfl)
    rw [hq, pval_none] at hl
    rw [E.out]
    clear h hq
    go_enter Try.func16, Try.ntmps16
    go_wp2_with (go_at_call 35; refine (made_any c0).mono ?_; rintro e w' ⟨rfl, rfl⟩)
    go_ret2
    exact ⟨rfl, 0, rfl⟩
  | some q =>
    have E := hid (show stR (absW X) s.data.toList now = (stS q.x (lim now), q.x.step) by unfold stR; rw [absW_look, hq]; rfl)
    rw [hq, pval_some] at hl
    have hp := h.map.of_look hq
    have c5 := hp.cell 5
    simp [procV] at c5
    have HS := hid (fun n => Calls.quiet_of (state_any (hp.drew n) (lim now)))
    have HL := hid (fun n => Calls.quiet_of_same (n := n) (w := w) ((wlimited_any now (w.drewN n)).mono fun _ _ h => ⟨h.1, h.2.symm⟩))
    rw [E.out]
    generalize stS q.x (lim now) = R at *
    generalize q.x.step = st at *
    generalize q.p = pb at *
    clear h hq hp
    go_enter Try.func16, Try.ntmps16
    go_wp2_with (go_at_call 35; refine (made_any c0).mono ?_; rintro e w' ⟨rfl, rfl⟩)
    go_quiet ((first
      | (go_at_call 37; with_reducible exact HL.out _)
      | (go_at_call 36; with_reducible exact HS.out _)))
    go_wp2_with fail
    go_ret2
    exact ⟨rfl, _, rfl⟩

/-! ### pending -/
def pendC (U : Wfs) (k : Str) (now : Int) : Int := match alook U k with
  | none => 6
  | some x => if stS x (lim now) = sExpired then 13 else if stS x (lim now) = sPending then 0 else 12
def pendV (X : PXs) (k : Str) (now : Int) : Value := if pendC (absW X) k now = 0 then pval PP.p (alook X k) else .pointer none
theorem sV_ne {a b : Str} (h : a ≠ b) : (a == b) = false := by simpa using h
set_option maxHeartbeats 2000000 in
set_option maxRecDepth 100000 in
theorem pending_any {w : World} {wb mb : Nat} {X : PXs} (h : WfAt w wb mb X) (s : ByteArray) (hs : s.size ≤ maxLen) (now : Int) :
    Calls Try.prog 46 #[.pointer (some ⟨wb, 0, none⟩), .string s, .int .i64 now] w fun e w' => e = .returned (.tuple #[pendV X s.data.toList now, .int .i64 (pendC (absW X) s.data.toList now)]) ∧ DrewN w w' := by
  have c0 := h.c0
  have hl := h.look s hs
  cases hq : alook X s.data.toList with
  | none =>
    have E := hid (show pendC (absW X) s.data.toList now = 6 by unfold pendC; rw [absW_look, hq]; rfl)
    have E2 := hid (show pendV X s.data.toList now = .pointer none by unfold pendV; rw [E.out]; rfl)
    rw [hq, pval_none] at hl
    rw [E.out, E2.out]
    clear h hq
    go_enter Try.func46, Try.ntmps46
    go_wp2_with (go_at_call 35; refine (made_any c0).mono ?_; rintro e w' ⟨rfl, rfl⟩)
    go_ret2
    exact ⟨rfl, 0, rfl⟩
  | some q =>
    have E := hid (show pendC (absW X) s.data.toList now = if stS q.x (lim now) = sExpired then 13 else if stS q.x (lim now) = sPending then 0 else 12 by unfold pendC; rw [absW_look, hq]; rfl)
    have E2 := hid (show pendV X s.data.toList now = if pendC (absW X) s.data.toList now = 0 then .pointer (some ⟨q.p, 0, none⟩) else .pointer none by unfold pendV; rw [hq]; rfl)
    rw [hq, pval_some] at hl
    have hp := h.map.of_look hq
    have HS := hid (state_any hp (lim now))
    generalize stS q.x (lim now) = R at *
    generalize q.p = pb at *
    clear h hq hp
    rw [E2.out, E.out]
    clear E2 E
    unfold sV at HS
    by_cases h1 : R = sExpired
    · rw [if_pos h1]
      have e1 : (R == sExpired) = true := by rw [h1]; exact beq_self_eq_true _
      unfold sExpired at e1
      clear h1
      go_enter Try.func46, Try.ntmps46
      go_wp2_with (first
        | (go_at_call 35; refine (made_any c0).mono ?_; rintro e w' ⟨rfl, rfl⟩)
        | (go_at_call 37; refine (wlimited_any _ _).mono ?_; rintro e w' ⟨rfl, rfl⟩)
        | (go_at_call 36; refine HS.out.mono ?_; rintro e w' ⟨rfl, hd⟩))
      go_ret2
      exact ⟨rfl, hd⟩
    · by_cases h2 : R = sPending
      · rw [if_neg h1, if_pos h2]
        have e1 := sV_ne h1
        have e2 : (R == sPending) = true := by rw [h2]; exact beq_self_eq_true _
        unfold sExpired at e1
        unfold sPending at e2
        clear h1 h2
        go_enter Try.func46, Try.ntmps46
        go_wp2_with (first
          | (go_at_call 35; refine (made_any c0).mono ?_; rintro e w' ⟨rfl, rfl⟩)
          | (go_at_call 37; refine (wlimited_any _ _).mono ?_; rintro e w' ⟨rfl, rfl⟩)
          | (go_at_call 36; refine HS.out.mono ?_; rintro e w' ⟨rfl, hd⟩))
        go_ret2
        exact ⟨rfl, hd⟩
      · rw [if_neg h1, if_neg h2]
        have e1 := sV_ne h1
        have e2 := sV_ne h2
        unfold sExpired at e1
        unfold sPending at e2
        clear h1 h2
        go_enter Try.func46, Try.ntmps46
        go_wp2_with (first
          | (go_at_call 35; refine (made_any c0).mono ?_; rintro e w' ⟨rfl, rfl⟩)
          | (go_at_call 37; refine (wlimited_any _ _).mono ?_; rintro e w' ⟨rfl, rfl⟩)
          | (go_at_call 36; refine HS.out.mono ?_; rintro e w' ⟨rfl, hd⟩))
        go_ret2
        exact ⟨rfl, hd⟩
end Go.Proofs.Ytionejokdfgmhaa

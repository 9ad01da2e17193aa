/- New, made, until, find of the program. -/
import Derived.Test.YtakccoiecmibcaaEnt
namespace Go.Proofs.Ytakccoiecmibcaa
open Go.RowKit Go.Maps

/-- Draws of the tape alone. -/
def DrewN (w w' : World) : Prop := ∃ n, w' = w.drewN n
theorem DrewN.kept {w w' : World} (h : DrewN w w') : Kept [] w w' := by obtain ⟨n, rfl⟩ := h; exact (Kept.refl [] w).drewN n
theorem DrewN.refl (w : World) : DrewN w w := ⟨0, rfl⟩
theorem cadd_any (t d : Int) (w : World) : Calls Try.prog 30 #[.int .i64 t, .int .i64 d] w fun e w' => e = .returned (.int .i64 (addI t d)) ∧ w = w' := add_any t d w
theorem addI_bd (t d : Int) : 0 ≤ addI t d ∧ addI t d ≤ 1099511627776 := lim_bd _
theorem SesAt.atD {w w1 : World} {sb mb : Nat} {idle abs : Int} {X : EXs} (h : SesAt w sb mb idle abs X) (hd : DrewN w w1) : SesAt w1 sb mb idle abs X := h.keptN hd.kept
theorem EntAt.atD {w w1 : World} {q : EP} (h : EntAt w q) (hd : DrewN w w1) : EntAt w1 q := h.keptN hd.kept

/-- New: the error. -/
def newC (idle abs : Int) : Int := if lim idle < 1 ∨ lim abs < 1 then 2 else 0
set_option maxHeartbeats 1000000 in
theorem new_bad {idle abs : Int} (hc : newC idle abs ≠ 0) (w : World) :
    Calls Try.prog 8 #[.int .i64 idle, .int .i64 abs] w fun e w' => e = .returned (.tuple #[.pointer none, .int .i64 (newC idle abs)]) ∧ w = w' := by
  have HE := hid (show newC idle abs = 2 by unfold newC at hc ⊢; split at hc <;> simp_all)
  rw [HE.out]
  by_cases h1 : lim idle < 1
  · clear hc
    go_enter Try.func8, Try.ntmps8
    go_wp2_with (go_at_call 30; refine (add0_any _ _).mono ?_; rintro e w' ⟨rfl, rfl⟩)
    go_ret2
    exact ⟨rfl, rfl⟩
  · have h2 : lim abs < 1 := by unfold newC at hc; split at hc <;> first | omega | exact absurd rfl hc
    clear hc
    go_enter Try.func8, Try.ntmps8
    go_wp2_with (go_at_call 30; refine (add0_any _ _).mono ?_; rintro e w' ⟨rfl, rfl⟩)
    go_ret2
    exact ⟨rfl, rfl⟩
set_option maxHeartbeats 1000000 in
theorem new_ok {idle abs : Int} (hc : newC idle abs = 0) (w : World) :
    Calls Try.prog 8 #[.int .i64 idle, .int .i64 abs] w fun e w' => e = .returned (.tuple #[.pointer (some ⟨w.heap.size + 1, 0, none⟩), .int .i64 0]) ∧ SesAt w' (w.heap.size + 1) w.heap.size (lim idle) (lim abs) [] ∧ Kept [] w w' ∧ w'.heap.size = w.heap.size + 2 := by
  have hmm := @run_makeMap Try.prog
  have h1 : 1 ≤ lim idle := by unfold newC at hc; split at hc <;> first | omega | cases hc
  have h2 : 1 ≤ lim abs := by unfold newC at hc; split at hc <;> first | omega | cases hc
  have b1 := lim_bd idle
  have b2 := lim_bd abs
  clear hc
  go_enter Try.func8, Try.ntmps8
  go_wp2_with (go_at_call 30; refine (add0_any _ _).mono ?_; rintro e w' ⟨rfl, rfl⟩)
  go_ret2
  refine ⟨rfl, ⟨?_, ⟨(RawMap.made w).kept ((Kept.refl [] _).alloc _) (by simp), by simp, List.Pairwise.nil⟩, by simp [pdom], by simp, Good.nil _ _, by simp, ⟨h1, b1.2⟩, ⟨h2, b2.2⟩⟩, ((Kept.refl [] w).alloc _).alloc _, by simp⟩
  have := heap_alloc_new (w.alloc (.map #[] 0)) (.cells #[.int .i64 (lim idle), .int .i64 (lim abs), .map (some w.heap.size)] 64 (0, 0))
  simpa using this
set_option maxHeartbeats 400000 in
theorem made_any {w : World} {sb mb : Nat} (c2 : w.cell? ⟨sb, 2, none⟩ = some (.map (some mb))) :
    Calls Try.prog 31 #[.pointer (some ⟨sb, 0, none⟩)] w fun e w' => e = .returned (.bool true) ∧ w = w' := by
  have hn : ∀ (w : World) (r : Option Nat), (binOp .neq 62 (.map r) (.map none)).run Try.prog w = .ok (.bool (!r.isNone)) w := fun w r => run_neq_map_nil w _ _ _ r Try.underlying62
  go_enter Try.func31, Try.ntmps31
  go_wp2
  go_ret
  exact ⟨rfl, rfl⟩
set_option maxHeartbeats 400000 in
theorem made_nil (w : World) :
    Calls Try.prog 31 #[.pointer none] w fun e w' => e = .returned (.bool false) ∧ w = w' := by
  go_enter Try.func31, Try.ntmps31
  go_wp2
  go_ret
  exact ⟨rfl, rfl⟩
set_option maxHeartbeats 1000000 in
set_option maxRecDepth 100000 in
/-- until, of an entry whose cells are there. -/
theorem until_any {w : World} {sb pb : Nat} {idle abs seen started : Int} (c0 : w.cell? ⟨sb, 0, none⟩ = some (.int .i64 idle)) (c1 : w.cell? ⟨sb, 1, none⟩ = some (.int .i64 abs)) (d4 : w.cell? ⟨pb, 4, none⟩ = some (.int .i64 started)) (d5 : w.cell? ⟨pb, 5, none⟩ = some (.int .i64 seen)) :
    Calls Try.prog 34 #[.pointer (some ⟨sb, 0, none⟩), .pointer (some ⟨pb, 0, none⟩)] w fun e w' => e = .returned (.int .i64 (min (addI seen idle) (addI started abs))) ∧ DrewN w w' := by
  have HA := hid (fun t d n => Calls.quiet_of_same (n := n) (w := w) ((cadd_any t d (w.drewN n)).mono fun _ _ h => ⟨h.1, h.2.symm⟩))
  have a1 := addI_bd seen idle
  have a2 := addI_bd started abs
  obtain ⟨A1, H1⟩ : ∃ A, Hid (A = addI seen idle) := ⟨_, hid rfl⟩
  obtain ⟨A2, H2⟩ : ∃ A, Hid (A = addI started abs) := ⟨_, hid rfl⟩
  go_enter Try.func34, Try.ntmps34
  go_wp2_with fail
  go_quiet ((go_at_call 30; with_reducible exact HA.out _ _ _))
  go_wp2_with fail
  all_goals (go_ret; exact ⟨ret_int (by omega), _, rfl⟩)

/-! ### find -/
def findV (X : EXs) (k : Str) (now : Int) : Value := if findC (absW X) k now = 0 then pval EP.p (alook X k) else .pointer none
set_option maxHeartbeats 2000000 in
set_option maxRecDepth 100000 in
theorem find_any {w : World} {sb mb : Nat} {idle abs : Int} {X : EXs} (h : SesAt w sb mb idle abs X) (s : ByteArray) (hs : s.size ≤ maxLen) (now : Int) :
    Calls Try.prog 35 #[.pointer (some ⟨sb, 0, none⟩), .string s, .int .i64 now] w fun e w' => e = .returned (.tuple #[findV X s.data.toList now, .int .i64 (findC (absW X) s.data.toList now)]) ∧ DrewN w w' := by
  have c2 := h.c2
  have hl := h.look s hs
  cases hq : alook X s.data.toList with
  | none =>
    have E := hid (show findC (absW X) s.data.toList now = 6 by unfold findC; rw [absW_look, hq]; rfl)
    have E2 := hid (show findV X s.data.toList now = .pointer none by unfold findV; rw [E.out]; rfl)
    rw [hq, pval_none] at hl
    rw [E.out, E2.out]
    clear h hq
    go_enter Try.func35, Try.ntmps35
    go_wp2_with (go_at_call 31; refine (made_any c2).mono ?_; rintro e w' ⟨rfl, rfl⟩)
    go_ret2
    exact ⟨rfl, 0, rfl⟩
  | some q =>
    have E := hid (show findC (absW X) s.data.toList now = if q.x.ended then 6 else if q.x.until_ ≤ lim now then 13 else 0 by unfold findC; rw [absW_look, hq]; rfl)
    have E2 := hid (show findV X s.data.toList now = if findC (absW X) s.data.toList now = 0 then .pointer (some ⟨q.p, 0, none⟩) else .pointer none by unfold findV; rw [hq]; rfl)
    rw [hq, pval_some] at hl
    have hp := (h.map.of_look hq).ec
    have c6 := hp.c6
    have c9 := hp.c9
    have HA := hid (fun t n => Calls.quiet_of_same (n := n) (w := w) ((add0_any t (w.drewN n)).mono fun _ _ h => ⟨h.1, h.2.symm⟩))
    rw [E2.out, E.out]
    generalize q.p = pb at *
    generalize q.x.ended = en at *
    generalize q.x.until_ = un at *
    clear h hq hp E E2
    cases en
    · by_cases h1 : un ≤ lim now
      · rw [if_neg (by simp : ¬ (false = true)), if_pos h1]
        go_enter Try.func35, Try.ntmps35
        go_wp2_with (go_at_call 31; refine (made_any c2).mono ?_; rintro e w' ⟨rfl, rfl⟩)
        go_quiet ((go_at_call 30; with_reducible exact HA.out _ _))
        go_wp2_with fail
        go_ret2
        exact ⟨rfl, _, rfl⟩
      · rw [if_neg (by simp : ¬ (false = true)), if_neg h1]
        go_enter Try.func35, Try.ntmps35
        go_wp2_with (go_at_call 31; refine (made_any c2).mono ?_; rintro e w' ⟨rfl, rfl⟩)
        go_quiet ((go_at_call 30; with_reducible exact HA.out _ _))
        go_wp2_with fail
        go_ret2
        exact ⟨rfl, _, rfl⟩
    · rw [if_pos rfl]
      go_enter Try.func35, Try.ntmps35
      go_wp2_with (go_at_call 31; refine (made_any c2).mono ?_; rintro e w' ⟨rfl, rfl⟩)
      go_ret2
      exact ⟨rfl, 0, rfl⟩
set_option maxHeartbeats 400000 in
theorem find_nil (s : ByteArray) (now : Int) (w : World) :
    Calls Try.prog 35 #[.pointer none, .string s, .int .i64 now] w fun e w' => e = .returned (.tuple #[.pointer none, .int .i64 1]) ∧ w = w' := by
  go_enter Try.func35, Try.ntmps35
  go_wp2_with (go_at_call 31; refine (made_nil _).mono ?_; rintro e w' ⟨rfl, rfl⟩)
  go_ret2
  exact ⟨rfl, rfl⟩
theorem find_ptr {X : EXs} {k : Str} {now : Int} (h : findC (absW X) k now = 0) : ∃ q, alook X k = some q ∧ findV X k now = .pointer (some ⟨q.p, 0, none⟩) ∧ q.x.ended = false ∧ lim now < q.x.until_ := by
  obtain ⟨x, hx, h1, h2⟩ := find_some h
  rw [absW_look] at hx
  cases hq : alook X k with
  | none => rw [hq] at hx; cases hx
  | some q =>
    rw [hq] at hx
    injection hx with hx
    subst hx
    exact ⟨q, rfl, by unfold findV; rw [if_pos h, hq]; rfl, h1, h2⟩
theorem find_nptr {X : EXs} {k : Str} {now : Int} (h : findC (absW X) k now ≠ 0) : findV X k now = .pointer none := by unfold findV; rw [if_neg h]
end Go.Proofs.Ytakccoiecmibcaa

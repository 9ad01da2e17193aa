/- A call by value; a script with its capacity; what a use leaves. -/
import Derived.Test.YtiaklgmmiadfoaaOpen
namespace Go.Proofs.Ytiaklgmmiadfoaa
open Go.RowKit Go.Maps Go.WideMaps Go.WideShapes

abbrev opV (x : OpT) : Value := .agg #[.int .i64 x.kind, .string x.id, .int .i64 x.till, .int .i64 x.now]
theorem agg_open {H : Type} {enc : TypeId × Value → H} {r : Reach} {b0 : Nat} {w : World} {v : Value} {d : DataW H} {p : List MemPlace} (hv : Value.okWide Try.prog w r b0 33 v)
    (h : DataW.Trod enc Try.prog w 0 (fun _ => true) true 33 v d p) : ∃ x : OpT, v = opV x ∧ x.id.size ≤ maxLen := by
  obtain ⟨c0, c1, c2, c3, y0, y1, y2, y3, n, rfl, _, _, f0, f1, f2, f3⟩ := Joins.open_agg4 Try.underlying33 (by kernel_rfl) (by kernel_rfl) hv h
  obtain ⟨n0, e0, _, _⟩ := DataW.trod_int Try.underlying3 f0
  obtain ⟨s1, e1, _, hs1⟩ := DataW.trod_string Try.underlying9 f1
  obtain ⟨n2, e2, _, _⟩ := DataW.trod_int Try.underlying3 f2
  obtain ⟨n3, e3, _, _⟩ := DataW.trod_int Try.underlying3 f3
  simp at e0 e1 e2 e3
  exact ⟨⟨n0, s1, n2, n3⟩, by rw [e0, e1, e2, e3], hs1⟩
theorem ops_open2 {H : Type} {enc : TypeId × Value → H} {w : World} {a : Option Addr} {len cap : Nat} {d : DataW H} {p : List MemPlace}
    (h : DataW.Trod enc Try.prog w 0 (fun _ => true) true 22 (.slice a len cap) d p) : ∃ l : List OpT, l.length = len ∧ (OpsAt w a l ∧ l.length ≤ cap ∧ cap ≤ maxLen) := by
  obtain ⟨h1, h2, _⟩ := slice_open Try.underlying22 (sz := 4) (by kernel_rfl) (by omega) h
  obtain ⟨l, rfl, ho⟩ := ops_open h
  exact ⟨l, rfl, ho, h1, h2⟩

/-! ### what stays remembered -/
theorem look_live_some {L : List Ent} (hu : Uniq L) {k : List UInt8} {e n : Int} (h : look L k = some e) (hn : n < e) : look (live L n) k = some e :=
  look_of_mem (hu.filter _) (List.mem_filter.2 ⟨look_some h, by simpa using hn⟩)
theorem look_room_some {L : List Ent} (hu : Uniq L) {k : List UInt8} {e n : Int} (most : Int) (h : look L k = some e) (hn : n < e) : look (roomL L most n) k = some e := by
  unfold roomL; split
  · exact h
  · exact look_live_some hu h hn
theorem useL_uniq {L : List Ent} (hu : Uniq L) (most : Int) (k : List UInt8) (u n : Int) : Uniq (useL L most k u n).2 := by
  unfold useL
  split
  · exact hu
  · split
    · exact hu
    · cases hl : look L k with
      | some o =>
        dsimp only
        split
        · exact hu
        · exact setL_uniq hu _ _
      | none =>
        dsimp only
        split
        · exact app_uniq (roomL_uniq hu _ _) (look_room hl _ _) _
        · exact roomL_uniq hu _ _
theorem stepL_uniq {L : List Ent} (hu : Uniq L) (most : Int) (x : OpT) : Uniq (stepL most L x) := by
  unfold stepL
  split
  · exact useL_uniq hu _ _ _ _
  · split
    · exact hu.filter _
    · exact hu
/-- Another key is looked up behind a use as before, if what stands there lives. -/
theorem useL_keeps {L : List Ent} (hu : Uniq L) {k : List UInt8} {e n : Int} (h : look L k = some e) (hn : n < e) (most : Int) (k' : List UInt8) (u : Int) : look (useL L most k' u n).2 k = some e := by
  unfold useL
  split
  · exact h
  · split
    · exact h
    · cases hl : look L k' with
      | some o =>
        dsimp only
        split
        · exact h
        · rename_i hno
          have hne : k ≠ k' := by
            rintro rfl
            rw [h] at hl
            injection hl with hl
            omega
          exact look_of_mem (setL_uniq hu _ _) ((setL_mem hl _).2 (.inr ⟨look_some h, hne⟩))
      | none =>
        have hne : k ≠ k' := by rintro rfl; rw [h] at hl; cases hl
        dsimp only
        split
        · exact look_of_mem (app_uniq (roomL_uniq hu _ _) (look_room hl _ _) _) ((app_mem (look_room hl _ _) _ _).2 (.inr ⟨look_some (look_room_some hu most h hn), hne⟩))
        · exact look_room_some hu most h hn
theorem stepL_keeps {L : List Ent} (hu : Uniq L) {k : List UInt8} {e : Int} (h : look L k = some e) (most : Int) {x : OpT} (hn : lim x.now < e) : look (stepL most L x) k = some e := by
  unfold stepL
  split
  · exact useL_keeps hu h hn _ _ _
  · split
    · exact look_live_some hu h hn
    · exact h
/-- A use that was accepted: the identifier stands there, and is a word. -/
theorem useL_ok {L : List Ent} (hu : Uniq L) {most : Int} {k : List UInt8} {u n : Int} (h : (useL L most k u n).1 = 0) : wordB k = true ∧ n < u ∧ look (useL L most k u n).2 k = some u := by
  unfold useL at h ⊢
  cases hw : wordB k
  · simp [hw] at h
  · simp only [hw] at h ⊢
    by_cases hun : u ≤ n
    · simp [hun] at h
    · simp only [hun, if_false] at h ⊢
      refine ⟨trivial, by omega, ?_⟩
      cases hl : look L k with
      | some o =>
        simp only [hl] at h ⊢
        by_cases hno : n < o
        · simp [hno] at h
        · simp only [hno, if_false]
          exact look_of_mem (setL_uniq hu _ _) ((setL_mem hl _).2 (.inl rfl))
      | none =>
        simp only [hl] at h ⊢
        cases hr : roomB L most n
        · simp [hr] at h
        · simp only [if_true]
          exact look_of_mem (app_uniq (roomL_uniq hu _ _) (look_room hl _ _) _) ((app_mem (look_room hl _ _) _ _).2 (.inl rfl))
/-- A use of what is remembered: refused, and nothing turns. -/
theorem useL_held {L : List Ent} {most : Int} {k : List UInt8} {e u n : Int} (hw : wordB k = true) (h : look L k = some e) (hn : n < e) : useL L most k u n = (if u ≤ n then 13 else 18, L) := by
  unfold useL
  rw [hw, h]
  by_cases hun : u ≤ n <;> simp [hun, hn]
theorem playL_uniq {L : List Ent} (hu : Uniq L) (most : Int) (l : List OpT) : Uniq (playL most L l) := by
  unfold playL
  induction l generalizing L with
  | nil => exact hu
  | cons x r ih => exact ih (stepL_uniq hu most x)
theorem RegAt.uniq {w : World} {rb mb : Nat} {most : Int} {L : List Ent} (h : RegAt w rb mb most L) : Uniq L := by obtain ⟨D, _, hs⟩ := h.map; exact hs.uniq
theorem RegAt.mblt {w : World} {rb mb : Nat} {most : Int} {L : List Ent} (h : RegAt w rb mb most L) : mb < w.heap.size := by obtain ⟨D, ho, _⟩ := h.map; exact ho.lt
theorem OpCells.kept {S : List Nat} {w w' : World} {b o : Nat} {x : OpT} (h : OpCells w b o x) (k : Kept S w w') (hb : b < w.heap.size) (hS : b ∉ S) : OpCells w' b o x := by
  obtain ⟨h0, h1, h2, h3⟩ := h
  exact ⟨by rw [k.cell hb hS]; exact h0, by rw [k.cell hb hS]; exact h1, by rw [k.cell hb hS]; exact h2, by rw [k.cell hb hS]; exact h3⟩
abbrev boxOf (x : OpT) : Obj := .cells #[.int .i64 x.kind, .string x.id, .int .i64 x.till, .int .i64 x.now] 33 (0, 0)
theorem box_cells (w : World) (x : OpT) : OpCells (w.alloc (boxOf x)) w.heap.size 0 x := by
  have h := heap_alloc_new w (boxOf x)
  exact ⟨by rw [cell_at h]; rfl, by rw [cell_at h]; rfl, by rw [cell_at h]; rfl, by rw [cell_at h]; rfl⟩
theorem OpsAt.old {w : World} {a : Option Addr} {l : List OpT} (h : OpsAt w a l) {m : Nat} (hm : w.heap.size ≤ m) : 0 < l.length → ∀ x, a = some x → x.block ≠ m := by
  intro hi
  obtain ⟨b, off, rfl, hb, _⟩ := h.at hi
  intro x hx
  injection hx with hx
  subst hx
  exact fun e => by simp at e; omega
theorem new_ex (most : Int) (h1 : 1 ≤ most) (h2 : most ≤ 256) (w : World) :
    Calls Try.prog 11 #[.int .i64 most] w fun e w' => ∃ rb mb, e = .returned (.tuple #[.pointer (some ⟨rb, 0, none⟩), .int .i64 0]) ∧ RegAt w' rb mb most [] ∧ Kept [] w w' ∧ w.heap.size ≤ rb ∧ w.heap.size ≤ mb := by
  refine (new_yes most h1 h2 w).mono ?_
  rintro e w' ⟨rfl, hr, hk, _⟩
  exact ⟨_, _, rfl, hr, hk, by omega, by omega⟩
/-- The world in which the arguments have been boxed, under a name of its own. -/
structure Start (w w0 : World) (a : Option Addr) (l : List OpT) (x : OpT) : Prop where
  ops : OpsAt w0 a l
  box : OpCells w0 w.heap.size 0 x
  kept : Kept [] w w0
  lt : w.heap.size < w0.heap.size
theorem few_start {w : World} {a : Option Addr} {cap : Nat} {l : List OpT} (h : OpsAt w a l) (x : OpT) :
    Calls Try.prog 9 #[.slice a l.length cap] (w.alloc (boxOf x)) fun e w' => e = .returned (.bool (fewB l)) ∧ Start w w' a l x := by
  have hA : OpsAt (w.alloc (boxOf x)) a l := h.keptS (S := []) ((Kept.refl [] w).alloc _) (by simp)
  refine (few_any hA).mono ?_
  rintro e w' ⟨rfl, rfl⟩
  exact ⟨rfl, hA, box_cells w x, (Kept.refl [] w).alloc _, by simp⟩
/-- A script of one call, out of the midst of another. -/
theorem OpsAt.one {w : World} {b off : Nat} {l : List OpT} (h : OpsAt w (some ⟨b, off, none⟩) l) {i : Nat} (hi : i < l.length) : OpsAt w (some ⟨b, off + i * 4, none⟩) [l[i]] := by
  obtain ⟨b', off', e, hb, hc⟩ := h.at hi
  injection e with e; injection e with e1 e2
  subst e1; subst e2
  refine ⟨.inr ⟨b, _, rfl, hb, fun j hj => ?_⟩, fun y hy => ?_, by simp [maxLen]⟩
  · obtain rfl : j = 0 := by simpa using hj
    simpa using hc
  · obtain rfl : y = l[i] := by simpa using hy
    exact h.sized _ (List.getElem_mem hi)
theorem OpsAt.lt {w : World} {b off : Nat} {l : List OpT} (h : OpsAt w (some ⟨b, off, none⟩) l) {i : Nat} (hi : i < l.length) : b < w.heap.size := by
  obtain ⟨b', off', e, hb, hc⟩ := h.at hi
  injection e with e; injection e with e1 e2
  subst e1; exact hb
theorem playL_one (most : Int) (L : List Ent) (y : OpT) : playL most L [y] = stepL most L y := rfl
theorem seenB_held {L : List Ent} {k : List UInt8} {e n : Int} (h : look L k = some e) (hn : lim n < e) : seenB L k n = true := by simp [seenB, look0, h, hn]
theorem seenB_over {L : List Ent} {k : List UInt8} {e n : Int} (h : look L k = some e) (hn : e ≤ lim n) : seenB L k n = false := by simp [seenB, look0, h]; exact hn
end Go.Proofs.Ytiaklgmmiadfoaa

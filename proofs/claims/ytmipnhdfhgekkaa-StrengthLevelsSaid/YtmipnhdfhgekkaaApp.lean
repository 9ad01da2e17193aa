/- One list behind another: 'append' of lists of proofs. -/
import Derived.Test.YtmipnhdfhgekkaaPlain
import Derived.Deep.RegionHeld3
namespace Go.Proofs.Ytmipnhdfhgekkaa
open Go.RowKit

theorem run_app {w0 w : World} {a b : Option Addr} {cap c : Nat} {l m : List Prf} (h : Own w0 w a cap l) (hs : PrfsAt w b m) (hlen : l.length + m.length ≤ 4000) (ty : TypeId) :
    ∃ a' cap' w', (Builtin.append_ #[22, 22] ty #[.slice a l.length cap, .slice b m.length c]).run Try.prog w = .ok (.slice a' (l ++ m).length cap') w' ∧ Own w0 w' a' cap' (l ++ m) := by
  obtain ⟨i0, hi, hz0, hz1, hz2⟩ := info_parts infoPrf
  cases b with
  | none =>
    have hm0 : m = [] := by
      rcases hs.cells with h0 | ⟨b, off, e, _⟩
      · exact h0
      · cases e
    subst hm0
    have hx := hs.few
    refine ⟨a, cap, w, ?_, by rw [List.append_nil]; exact h⟩
    rw [List.append_nil]
    rcases h.row.2 with ⟨e, h0⟩ | ⟨g, cap', cur, e, _, _, hnc, _⟩
    · rw [e]; simp [Builtin.append_, run_underlying Try.underlying22, sizeOf, typeInfo, hi, Builtin.lenOf, Builtin.firstCells]
    · rw [e]; simp [Builtin.append_, run_underlying Try.underlying22, sizeOf, typeInfo, hi, Builtin.lenOf, Builtin.firstCells, hnc, storeCells]
  | some ad =>
    obtain ⟨v', w', hr, hown, hgrow, hnil, hloc⟩ := run_append_own_at (P := Try.prog) w 0 22 ty 36 i0 _ 2 16 Try.underlying22 hi hz0 hz1 hz2 rfl (by omega) _ l.length (prfsV l) h.row ad m.length c (prfsV m) (prfsV_len m) (prfs_news hs) (prfsV_one m) (by unfold maxLen; omega) (by omega) (Nat.zero_le _)
    obtain ⟨a', cap', rfl⟩ := row_form hown
    rw [List.length_append]
    refine ⟨a', cap', w', hr, by rw [List.length_append]; simpa [prfsV] using hown, h.kept.grown hgrow (fun i hi => .inr (h.new i (ownBlock_mem hi))), fun i hi => ?_⟩
    have hi' : (Value.slice a' (l.length + m.length) cap').ownBlock = some i := by
      cases a' with
      | none => simp [fp] at hi
      | some x => simp only [fp, List.mem_singleton] at hi; rw [hi]; rfl
    rcases hloc with hloc | hloc
    · rw [hloc] at hi'; exact h.new i (ownBlock_mem hi')
    · rw [hloc] at hi'; injection hi' with hi'; have := h.kept.size; omega
theorem wp_app {ops : Array Oper} {rest : List Oper} {o : Oper} {ac : Act} {Q : Exit → Act → World → Prop} {w0 w : World} {a b : Option Addr} {cap c : Nat} {l m n : List Prf} (hn : n = l ++ m) (h : Own w0 w a cap l) (hs : PrfsAt w b m) (hlen : l.length + m.length ≤ 4000)
    (hgd : o.guard = none) (s x : Operand)
    (ho : o.op = .call { callee := .builtin .append, args := #[s, x], argTypes := #[22, 22] }) (e1 : ac.eval s = .slice a l.length cap) (e2 : ac.eval x = .slice b m.length c)
    (hk : ∀ a' cap' w', Own w0 w' a' cap' n → wpList Try.prog ops Q rest (ac.put o.dst (.slice a' n.length cap')) w') : wpList Try.prog ops Q (o :: rest) ac w := by
  subst hn
  refine wpList_plain hgd fun K hK => ?_
  obtain ⟨a', cap', w', hr, ho'⟩ := run_app (c := c) h hs hlen o.type
  unfold Oper.wp execOp
  simp only [ho, resolve, invoke, builtin, Sem.run_bind, Sem.run_pure, Result.andThen_ok, List.map_toArray, List.map_cons, List.map_nil, e1, e2, hr]
  exact hK _ _ (hk a' cap' w' ho')
theorem step_app {ops : Array Oper} {o : Oper} {ac : Act} {K : Act → World → Prop} {Q : Exit → Act → World → Prop} {E : Prop} {w0 w : World} {a b : Option Addr} {cap c : Nat} {l m n : List Prf} (hn : n = l ++ m) (h : Own w0 w a cap l) (hs : PrfsAt w b m) (hlen : l.length + m.length ≤ 4000)
    (hgd : o.guard = none) (s x : Operand)
    (ho : o.op = .call { callee := .builtin .append, args := #[s, x], argTypes := #[22, 22] }) (e1 : ac.eval s = .slice a l.length cap) {ml : Nat} (e2 : ac.eval x = .slice b ml c) (hml : ml = m.length)
    (hk : ∀ a' cap' w', Own w0 w' a' cap' n → K (ac.put o.dst (.slice a' n.length cap')) w') :
    if Region.wanted o (yielded ops ac.tmps) = true then Oper.wp Try.prog o ac w K Q else E := by
  subst hn
  subst hml
  have hw : Region.wanted o (yielded ops ac.tmps) = true := by simp [Region.wanted, hgd]
  rw [if_pos hw]
  obtain ⟨a', cap', w', hr, ho'⟩ := run_app (c := c) h hs hlen o.type
  unfold Oper.wp execOp
  simp only [ho, resolve, invoke, builtin, Sem.run_bind, Sem.run_pure, Result.andThen_ok, List.map_toArray, List.map_cons, List.map_nil, e1, e2, hr]
  exact hk a' cap' w' ho'
/-! ### parts of a list -/
theorem prfs_drop {w : World} {a : Option Addr} {cap : Nat} {l : List Prf} (h : PrfsAt w a l) {k : Nat} (hk : k ≤ l.length) (hc : l.length ≤ cap) : PrfsAt w (if cap = k then a else a.map (·.add (k * 2))) (l.drop k) := by
  refine ⟨?_, Nat.le_trans (by simp) h.few⟩
  by_cases h0 : k = l.length
  · exact .inl (by rw [h0]; exact List.drop_length)
  · obtain ⟨b, off, rfl, hb, _⟩ := h.at (i := k) (by omega)
    rw [if_neg (by omega)]
    refine .inr ⟨b, off + k * 2, by simp [Addr.add], hb, fun i hi => ?_⟩
    have hi' : k + i < l.length := by simp at hi; omega
    obtain ⟨b', off', e, _, hcell⟩ := h.at hi'
    injection e with e; injection e with e1 e2
    subst e1; subst e2
    rw [List.getElem_drop, show off + k * 2 + i * 2 = off + (k + i) * 2 by omega]
    exact hcell
theorem prfs_take {w : World} {a : Option Addr} {cap : Nat} {l : List Prf} (h : PrfsAt w a l) {k : Nat} (hk : k ≤ l.length) (hc : l.length ≤ cap) : PrfsAt w (if cap = 0 then a else a.map (·.add 0)) (l.take k) := by
  refine ⟨?_, Nat.le_trans (by simp; omega) h.few⟩
  by_cases h0 : k = 0
  · exact .inl (by rw [h0]; rfl)
  · obtain ⟨b, off, rfl, hb, _⟩ := h.at (i := 0) (by omega)
    rw [if_neg (by omega)]
    refine .inr ⟨b, off, by simp [Addr.add], hb, fun i hi => ?_⟩
    have hi' : i < l.length := by simp at hi; omega
    obtain ⟨b', off', e, _, hcell⟩ := h.at hi'
    injection e with e; injection e with e1 e2
    subst e1; subst e2
    rw [List.getElem_take]
    exact hcell
/-- An empty list, made. -/
theorem Own.made (w : World) : Own w (w.alloc (.cells #[] 36 (0, 0))) (some ⟨w.heap.size, 0, none⟩) 0 [] :=
  ⟨World.ownsRow_made w #[] 0 (Nat.zero_le _) (Nat.zero_le _) rfl, (Kept.refl [] w).alloc _, fun i hi => by simp only [fp, List.mem_singleton] at hi; omega⟩
theorem Own.rebase {w0 w1 w : World} {a : Option Addr} {cap : Nat} {l : List Prf} (h : Own w1 w a cap l) (k : Kept [] w0 w1) : Own w0 w a cap l := ⟨h.row, k.step h.kept (by simp), fun i hi => Nat.le_trans k.size (h.new i hi)⟩
end Go.Proofs.Ytmipnhdfhgekkaa

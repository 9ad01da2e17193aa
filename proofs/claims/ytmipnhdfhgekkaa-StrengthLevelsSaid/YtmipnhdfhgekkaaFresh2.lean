/- Fresh and Meets, of both; Same. -/
import Derived.Test.YtmipnhdfhgekkaaFresh
namespace Go.Proofs.Ytmipnhdfhgekkaa
open Go.RowKit

set_option maxHeartbeats 400000 in
theorem limited_any (t : Int) (w : World) :
    Calls Try.prog 33 #[.int .i64 t] w fun e w' => e = .returned (.int .i64 (lim t)) ∧ w = w' := by
  go_enter Try.func33, Try.ntmps33
  go_wp2
  all_goals (go_ret; exact ⟨ret_int (by unfold lim; omega), rfl⟩)
set_option maxHeartbeats 400000 in
theorem instant_any (t : Int) (w : World) :
    Calls Try.prog 34 #[.int .i64 t] w fun e w' => e = .returned (.int .i64 (lim t)) ∧ w = w' := by
  go_enter Try.func34, Try.ntmps34
  go_wp2
  all_goals (go_ret; exact ⟨ret_int (by unfold lim; omega), rfl⟩)

/-! ### a list that the call has made -/
def prfsV (l : List Prf) : List Value := l.flatMap fun p => [.int .i64 p.1, .int .i64 p.2]
theorem prfsV_len (l : List Prf) : (prfsV l).length = l.length * 2 := by
  induction l with
  | nil => rfl
  | cons p r ih => simp [prfsV] at *; omega
theorem prfsV_get (l : List Prf) (i : Nat) (h : i < l.length) : (prfsV l)[i * 2]? = some (.int .i64 l[i].1) ∧ (prfsV l)[i * 2 + 1]? = some (.int .i64 l[i].2) := by
  induction l generalizing i with
  | nil => simp at h
  | cons p r ih =>
    cases i with
    | zero => exact ⟨rfl, rfl⟩
    | succ i =>
      have h' := ih i (by simpa using h)
      have e : (i + 1) * 2 = i * 2 + 1 + 1 := by omega
      rw [e]
      exact h'
theorem prfsV_snoc (l : List Prf) (p : Prf) : prfsV (l ++ [p]) = prfsV l ++ [.int .i64 p.1, .int .i64 p.2] := by simp [prfsV]
theorem prf_one (p : Prf) : ∀ u ∈ [Value.int .i64 p.1, Value.int .i64 p.2], u.oneCell' = true := by
  intro u hu
  simp at hu
  rcases hu with rfl | rfl <;> rfl
theorem infoPrf : (Try.prog.info? 36).map (fun i => (i.zero, i.size, i.bytes)) = some (some (.agg #[.int .i64 0, .int .i64 0]), 2, 16) := by kernel_rfl
theorem cell_two_at (w : World) (o : Obj) (a b : Value) (t : TypeId) : ∀ j u, [a, b][j]? = some u → ((w.alloc o).alloc (.cells #[a, b] t)).cell? ((⟨w.heap.size + 1, 0, none⟩ : Addr).add j) = some u := by
  have h := cell_two_new (w.alloc o) a b t
  simpa using h
structure Own (w0 w : World) (a : Option Addr) (cap : Nat) (l : List Prf) : Prop where
  row : w.ownsRow 0 36 2 (.slice a l.length cap) l.length (prfsV l)
  kept : Kept [] w0 w
  new : ∀ i ∈ fp a, w0.heap.size ≤ i
theorem row_seq {w : World} {a : Option Addr} {cap : Nat} {l : List Prf} (h : w.ownsRow 0 36 2 (.slice a l.length cap) l.length (prfsV l)) : PrfsAt w a l := by
  rcases Nat.eq_zero_or_pos l.length with h0 | h0
  · exact ⟨.inl (List.length_eq_zero_iff.1 h0), by rw [h0]; exact Nat.zero_le _⟩
  · obtain ⟨g, cur, rfl, hg, h1, h2, _⟩ := row_some h h0
    refine ⟨.inr ⟨g, 0, rfl, lt_of_heap hg, fun i hi => ?_⟩, by omega⟩
    obtain ⟨e1, e2⟩ := prfsV_get l i hi
    exact ⟨by rw [Nat.zero_add]; exact row_cell h e1, by rw [Nat.zero_add]; exact row_cell h e2⟩
theorem Own.seq {w0 w : World} {a : Option Addr} {cap : Nat} {l : List Prf} (h : Own w0 w a cap l) : PrfsAt w a l := row_seq h.row
theorem Own.later {w0 w w' : World} {a : Option Addr} {cap : Nat} {l : List Prf} (h : Own w0 w a cap l) (k : Kept [] w w') : Own w0 w' a cap l := ⟨row_kept h.row k (by simp), h.kept.step k (by simp), h.new⟩
theorem Own.start (w : World) : Own w w none 0 [] := ⟨World.ownsRow_nil _ _ _ _, Kept.refl _ _, by simp [fp]⟩
/-- One more element. -/
theorem Own.push {w0 w w1 w2 : World} {a : Option Addr} {cap g cap2 : Nat} {l : List Prf} {p : Prf} (h : Own w0 w a cap l) (k : Kept [] w w1)
    (hown : w2.ownsRow 0 36 2 (.slice (some ⟨g, 0, none⟩) (l.length + 1) cap2) (l.length + 1) (prfsV l ++ [.int .i64 p.1, .int .i64 p.2]))
    (hg : w1.grownBy w2 (Value.slice a l.length cap).ownBlock) (hat : (Value.slice a l.length cap).ownBlock = some g ∨ g = w1.heap.size) : Own w0 w2 (some ⟨g, 0, none⟩) cap2 (l ++ [p]) := by
  refine ⟨by rw [prfsV_snoc, List.length_append]; exact hown, (h.kept.step k (by simp)).grown hg (fun i hi => .inr (h.new i (ownBlock_mem hi))), fun i hi => ?_⟩
  simp only [fp, List.mem_singleton] at hi
  subst hi
  rcases hat with hat | hat
  · exact h.new _ (ownBlock_mem hat)
  · have := h.kept.size; have := k.size; omega

def freshB (now age : Int) (p : Prf) : Bool := decide (lim now - lim age ≤ p.2)
def freshL (l : List Prf) (now age : Int) : List Prf := l.filter (freshB now age)
theorem fresh_snoc (l : List Prf) (now age : Int) (k : Nat) (h : k < l.length) : freshL (l.take (k + 1)) now age = if freshB now age l[k] then freshL (l.take k) now age ++ [l[k]] else freshL (l.take k) now age := by
  rw [List.take_succ_eq_append_getElem h]
  unfold freshL
  rw [List.filter_append]
  by_cases hc : freshB now age l[k] <;> simp [hc]
theorem fresh_le (l : List Prf) (now age : Int) (k : Nat) : (freshL (l.take k) now age).length ≤ l.length := Nat.le_trans (List.length_filter_le _ _) (by simp; omega)

set_option maxHeartbeats 1000000 in
set_option maxRecDepth 100000 in
theorem fresh_any {w : World} {a : Option Addr} {cap : Nat} {l : List Prf} (h : PrfsAt w a l) (now age : Int) (hlen : l.length ≤ 1000) :
    Calls Try.prog 16 #[.slice a l.length cap, .int .i64 now, .int .i64 age] w fun e w' => ∃ a' cap', e = .returned (.slice a' (freshL l now age).length cap') ∧ Own w w' a' cap' (freshL l now age) := by
  have hf := h.few
  unfold maxLen at hf
  obtain ⟨n1, n2⟩ := lim_bd now
  obtain ⟨g1, g2⟩ := lim_bd age
  obtain ⟨i0, hi, hz0, hz1, hz2⟩ := info_parts infoPrf
  go_enter Try.func16, Try.ntmps16
  go_wp2_with (go_at_call 33; refine (limited_any _ _).mono ?_; rintro e w' ⟨rfl, rfl⟩)
  go_loopw [8, 18] (fun v i wr => ∃ (k : Nat) (a' : Option Addr) (cap' : Nat), k ≤ l.length ∧ i = .int .i64 k ∧ v = .slice a' (freshL (l.take k) now age).length cap' ∧ Own w wr a' cap' (freshL (l.take k) now age)) (fun _ i _ => l.length - (intOf i).toNat)
  case atStart => exact ⟨0, none, 0, Nat.zero_le _, rfl, rfl, Own.start w⟩
  case round =>
    obtain ⟨k, a', cap', hk, rfl, rfl, hown0⟩ := hrel
    by_cases hlt : k < l.length
    · obtain ⟨b, off, rfl, hb, hc0, hc1⟩ := (h.kept hown0.kept).at hlt
      have hb1 : (0 : Int) ≤ k := by omega
      have hb2 : (k : Int) < l.length := by omega
      have hle := fresh_le l now age k
      have Hsn := hid (fresh_snoc l now age k hlt)
      by_cases hv : lim now - lim age ≤ l[k].2
      · have Hv := hid (show freshB now age l[k] = true by simp [freshB, hv])
        go_wp2_with (at_builtin; refine wpList_append_lies _ rfl _ _ _ rfl 0 36 i0 _ 2 16 Try.underlying22 hi hz0 hz1 hz2 rfl (by omega) _ _ _ rfl ((hown0.row.alloc _).alloc _) ⟨wr.heap.size + 1, 0, none⟩ 1 1 [.int .i64 l[k].1, .int .i64 l[k].2] rfl rfl (cell_two_at _ _ _ _ _) (prf_one l[k]) (by omega) (by unfold maxLen; omega) (by omega) (Nat.zero_le _) (wr.heap.size + 1 + 1) (by simp) ?_; intro g2 cap2 w1 hown hgrow hat hlt2)
        go_roundw
        case rel =>
          have e : freshL (l.take (k + 1)) now age = freshL (l.take k) now age ++ [l[k]] := by rw [Hsn.out, if_pos Hv.out]
          refine ⟨k + 1, some ⟨g2, 0, none⟩, cap2, by omega, by go_num, by rw [e]; simp, ?_⟩
          rw [e]
          exact hown0.push (((Kept.refl [] wr).alloc (.cells #[.int .i64 l[k].1, .int .i64 l[k].2] 36 (0, 0))).alloc (.cells #[.int .i64 l[k].1, .int .i64 l[k].2] 36 (0, 0))) hown hgrow (hat.imp id (fun e => by rw [e]; simp))
        case measure => simp [intOf]; omega
      · have Hv := hid (show freshB now age l[k] = false by simpa [freshB] using hv)
        go_wp2_with fail
        go_roundw
        case rel =>
          have e : freshL (l.take (k + 1)) now age = freshL (l.take k) now age := by rw [Hsn.out, if_neg (by rw [Hv.out]; simp)]
          exact ⟨k + 1, a', cap', by omega, by go_num, by rw [e], by rw [e]; exact (hown0.later ((Kept.refl [] wr).alloc _))⟩
        case measure => simp [intOf]; omega
    · have e1 : l.take k = l := List.take_of_length_le (by omega)
      rw [e1] at hown0 ⊢
      go_wp2_with fail
      go_ret
      exact ⟨_, _, rfl, hown0⟩

set_option maxHeartbeats 1000000 in
set_option maxRecDepth 100000 in
theorem rfresh_any {w : World} {a : Option Addr} {cap : Nat} {l : List Prf} (h : PrfsAt w a l) (now age : Int) (hlen : l.length ≤ 1000) :
    Calls Try.prog 17 #[.slice a l.length cap, .int .i64 now, .int .i64 age] w fun e w' => ∃ a' cap', e = .returned (.slice a' (freshL l now age).length cap') ∧ Own w w' a' cap' (freshL l now age) := by
  have hf := h.few
  unfold maxLen at hf
  obtain ⟨n1, n2⟩ := lim_bd now
  obtain ⟨g1, g2⟩ := lim_bd age
  obtain ⟨i0, hi, hz0, hz1, hz2⟩ := info_parts infoPrf
  go_enter Try.func17, Try.ntmps17
  go_wp2_with (go_at_call 34; refine (instant_any _ _).mono ?_; rintro e w' ⟨rfl, rfl⟩)
  go_loopw [8, 9] (fun v i wr => ∃ (k : Nat) (a' : Option Addr) (cap' : Nat), k ≤ l.length ∧ i = .int .i64 k ∧ v = .slice a' (freshL (l.take k) now age).length cap' ∧ Own w wr a' cap' (freshL (l.take k) now age)) (fun _ i _ => l.length - (intOf i).toNat)
  case atStart => exact ⟨0, none, 0, Nat.zero_le _, rfl, rfl, Own.start w⟩
  case round =>
    obtain ⟨k, a', cap', hk, rfl, rfl, hown0⟩ := hrel
    by_cases hlt : k < l.length
    · obtain ⟨b, off, rfl, hb, hc0, hc1⟩ := (h.kept hown0.kept).at hlt
      have hb1 : (0 : Int) ≤ k := by omega
      have hb2 : (k : Int) < l.length := by omega
      have hle := fresh_le l now age k
      have Hsn := hid (fresh_snoc l now age k hlt)
      by_cases hv : lim now - lim age ≤ l[k].2
      · have Hv := hid (show freshB now age l[k] = true by simp [freshB, hv])
        go_wp2_with (at_builtin; refine wpList_append_lies _ rfl _ _ _ rfl 0 36 i0 _ 2 16 Try.underlying22 hi hz0 hz1 hz2 rfl (by omega) _ _ _ rfl (hown0.row.alloc _) ⟨wr.heap.size, 0, none⟩ 1 1 [.int .i64 l[k].1, .int .i64 l[k].2] rfl rfl (cell_two_new _ _ _ _) (prf_one l[k]) (by omega) (by unfold maxLen; omega) (by omega) (Nat.zero_le _) (wr.heap.size + 1) (by simp) ?_; intro g2 cap2 w1 hown hgrow hat hlt2)
        go_roundw
        case rel =>
          have e : freshL (l.take (k + 1)) now age = freshL (l.take k) now age ++ [l[k]] := by rw [Hsn.out, if_pos Hv.out]
          refine ⟨k + 1, some ⟨g2, 0, none⟩, cap2, by omega, by go_num, by rw [e]; simp, ?_⟩
          rw [e]
          exact hown0.push ((Kept.refl [] wr).alloc (.cells #[.int .i64 l[k].1, .int .i64 l[k].2] 36 (0, 0))) hown hgrow (hat.imp id (fun e => by rw [e]; simp))
        case measure => simp [intOf]; omega
      · have Hv := hid (show freshB now age l[k] = false by simpa [freshB] using hv)
        go_wp2_with fail
        go_roundw
        case rel =>
          have e : freshL (l.take (k + 1)) now age = freshL (l.take k) now age := by rw [Hsn.out, if_neg (by rw [Hv.out]; simp)]
          exact ⟨k + 1, a', cap', by omega, by go_num, by rw [e], by rw [e]; exact hown0⟩
        case measure => simp [intOf]; omega
    · have e1 : l.take k = l := List.take_of_length_le (by omega)
      rw [e1] at hown0 ⊢
      go_wp2_with fail
      go_ret
      exact ⟨_, _, rfl, hown0⟩
end Go.Proofs.Ytmipnhdfhgekkaa

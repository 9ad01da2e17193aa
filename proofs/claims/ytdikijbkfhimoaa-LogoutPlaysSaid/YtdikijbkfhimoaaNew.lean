/- ready, New, after. -/
import Derived.Test.YtdikijbkfhimoaaLg
namespace Go.Proofs.Ytdikijbkfhimoaa
open Go.RowKit Go.Maps

def DrewN (w w' : World) : Prop := ∃ n, w' = w.drewN n
theorem DrewN.kept {w w' : World} (h : DrewN w w') : Kept [] w w' := by obtain ⟨n, rfl⟩ := h; exact (Kept.refl [] w).drewN n
theorem DrewN.refl (w : World) : DrewN w w := ⟨0, rfl⟩
set_option maxHeartbeats 400000 in
theorem ready_any {w : World} {lb : Nat} {r : Option Nat} (c2 : w.cell? ⟨lb, 2, none⟩ = some (.map r)) :
    Calls Try.prog 34 #[.pointer (some ⟨lb, 0, none⟩)] w fun e w' => e = .returned (.bool r.isSome) ∧ w = w' := by
  have hn : ∀ (w : World) (r : Option Nat), (binOp .neq 55 (.map r) (.map none)).run Try.prog w = .ok (.bool (!r.isNone)) w := fun w r => run_neq_map_nil w _ _ _ r Try.underlying55
  go_enter Try.func34, Try.ntmps34
  go_wp2
  go_ret
  exact ⟨rfl, rfl⟩
set_option maxHeartbeats 400000 in
theorem ready_none (w : World) :
    Calls Try.prog 34 #[.pointer none] w fun e w' => e = .returned (.bool false) ∧ w = w' := by
  go_enter Try.func34, Try.ntmps34
  go_wp2
  go_ret
  exact ⟨rfl, rfl⟩
theorem good_nil {most delay : Nat} (h1 : 1 ≤ most) (h2 : most ≤ 8) (h3 : 1 ≤ delay) (h4 : delay ≤ 3600) : Good most delay [] :=
  ⟨⟨h1, h2⟩, ⟨h3, h4⟩, List.Pairwise.nil, by simp, by simp, by simp⟩
set_option maxHeartbeats 400000 in
theorem new_log (w : World) {most delay : Nat} (h1 : 1 ≤ most) (h2 : most ≤ 8) (h3 : 1 ≤ delay) (h4 : delay ≤ 3600) :
    Calls Try.prog 11 #[.int .i64 (most : Int), .int .i64 (delay : Int)] w fun e w' => e = .returned (.tuple #[.pointer (some ⟨w.heap.size + 1, 0, none⟩), .int .i64 0]) ∧ LogAt w' (w.heap.size + 1) w.heap.size most delay [] ∧ Kept [] w w' ∧ w'.heap.size = w.heap.size + 2 := by
  have hmm := @run_makeMap Try.prog
  have i1 : decide ((most : Int) < 1) = false := decide_eq_false (by omega)
  have i2 : decide ((8 : Int) < most) = false := decide_eq_false (by omega)
  have i3 : decide ((delay : Int) < 1) = false := decide_eq_false (by omega)
  have i4 : decide ((3600 : Int) < delay) = false := decide_eq_false (by omega)
  have b1 : (1 : Int) ≤ most := by omega
  have b2 : (most : Int) ≤ 8 := by omega
  have b3 : (1 : Int) ≤ delay := by omega
  have b4 : (delay : Int) ≤ 3600 := by omega
  go_enter Try.func11, Try.ntmps11
  go_wp2
  go_ret2
  refine ⟨rfl, ⟨?_, (RawMap.made w).kept ((Kept.refl [] _).alloc _) (by simp), by simp, List.Pairwise.nil, by simp, good_nil h1 h2 h3 h4⟩, ((Kept.refl [] w).alloc _).alloc _, by simp⟩
  have := heap_alloc_new (w.alloc (.map #[] 0)) (.cells #[.int .i64 (most : Int), .int .i64 (delay : Int), .map (some w.heap.size)] 57 (0, 0))
  simpa using this
set_option maxHeartbeats 400000 in
theorem new_bad (w : World) {most delay : Int} (h : most < 1 ∨ 8 < most ∨ delay < 1 ∨ 3600 < delay) :
    Calls Try.prog 11 #[.int .i64 most, .int .i64 delay] w fun e w' => e = .returned (.tuple #[.pointer none, .int .i64 2]) ∧ Kept [] w w' := by
  by_cases h1 : most < 1
  · go_enter Try.func11, Try.ntmps11
    go_wp2
    go_ret2
    exact ⟨rfl, Kept.refl _ _⟩
  by_cases h2 : 8 < most
  · go_enter Try.func11, Try.ntmps11
    go_wp2
    go_ret2
    exact ⟨rfl, Kept.refl _ _⟩
  by_cases h3 : delay < 1
  · go_enter Try.func11, Try.ntmps11
    go_wp2
    go_ret2
    exact ⟨rfl, Kept.refl _ _⟩
  have h4 : 3600 < delay := by omega
  go_enter Try.func11, Try.ntmps11
  go_wp2
  go_ret2
  exact ⟨rfl, Kept.refl _ _⟩
theorem after_bd {delay k : Nat} (hd : delay ≤ 3600) (hk : k ≤ 8) : afterN delay k ≤ 918000 := by
  unfold afterN
  have h1 : 2 ^ k ≤ 2 ^ 8 := Nat.pow_le_pow_right (by omega) hk
  have h2 : 2 ^ k - 1 ≤ 255 := by omega
  exact Nat.mul_le_mul hd h2
theorem after_eq {delay k : Nat} (hd : delay ≤ 3600) (hk : k ≤ 8) : wrap64 ((delay : Int) * wrap64 (wrap64 (2 ^ (k : Int).toNat) - 1)) = ((afterN delay k : Nat) : Int) := by
  unfold afterN
  have hk' : k = 0 ∨ k = 1 ∨ k = 2 ∨ k = 3 ∨ k = 4 ∨ k = 5 ∨ k = 6 ∨ k = 7 ∨ k = 8 := by omega
  rcases hk' with rfl | rfl | rfl | rfl | rfl | rfl | rfl | rfl | rfl <;> (simp [wrap64]; try omega)
set_option maxHeartbeats 1000000 in
theorem after_any {w : World} {lb delay k : Nat} (c1 : w.cell? ⟨lb, 1, none⟩ = some (.int .i64 (delay : Int))) (hd : delay ≤ 3600) (hk : k ≤ 8) :
    Calls Try.prog 41 #[.pointer (some ⟨lb, 0, none⟩), .int .i64 (k : Int)] w fun e w' => e = .returned (.int .i64 (afterN delay k : Nat)) ∧ DrewN w w' := by
  have HE := hid (after_eq hd hk)
  have k1 : (0 : Int) ≤ k := by omega
  have k2 : (k : Int) ≤ 8 := by omega
  have d1 : (0 : Int) ≤ delay := by omega
  go_enter Try.func41, Try.ntmps41
  go_wp2_with fail
  go_quiet (fail)
  go_wp2_with fail
  go_ret
  exact ⟨ret_int HE.out, _, rfl⟩
end Go.Proofs.Ytdikijbkfhimoaa

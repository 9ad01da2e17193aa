/- The changes of Done and Fail. -/
import Derived.Test.YtdikijbkfhimoaaBegin
namespace Go.Proofs.Ytdikijbkfhimoaa
open Go.RowKit Go.Maps

set_option maxHeartbeats 400000 in
theorem done1_any (n : Note) (w : World) :
    Calls Try.prog 47 #[.agg #[.int .i64 n.1, .int .i64 (n.2 : Int)]] w fun e w' => e = .returned (.agg #[.int .i64 2, .int .i64 (n.2 : Int)]) ∧ Kept [] w w' := by
  go_enter Try.func47, Try.ntmps47
  go_wp2_with fail
  refine bodyPost_ret (v := .agg #[.int .i64 2, .int .i64 (n.2 : Int)]) (by simp [results, Try.results47, go_sem]) rfl ⟨rfl, ?_⟩
  exact ((Kept.refl [] w).alloc _).alloc _
set_option maxHeartbeats 1000000 in
theorem fail1_any {most : Nat} {n : Note} (hn : n.2 < most) (hm : most ≤ 8) {w : World} {cb lb : Nat} (c : w.cell? ⟨cb, 0, none⟩ = some (.pointer (some ⟨lb, 0, none⟩))) (c0 : w.cell? ⟨lb, 0, none⟩ = some (.int .i64 (most : Int))) :
    Calls Try.prog 49 #[.agg #[.int .i64 n.1, .int .i64 (n.2 : Int)], .pointer (some ⟨cb, 0, none⟩)] w fun e w' => e = .returned (.agg #[.int .i64 (failN most n).1, .int .i64 ((failN most n).2 : Int)]) ∧ Kept [] w w' := by
  obtain ⟨s, k⟩ := n
  have hlt1 : cb < w.heap.size := by
    by_cases h : cb < w.heap.size
    · exact h
    · simp [World.cell?, Array.getElem?_eq_none (by omega : w.heap.size ≤ cb)] at c
  have hlt2 : lb < w.heap.size := by
    by_cases h : lb < w.heap.size
    · exact h
    · simp [World.cell?, Array.getElem?_eq_none (by omega : w.heap.size ≤ lb)] at c0
  have hc : ∀ o1 o2, ((w.alloc o1).alloc o2).cell? ⟨cb, 0, none⟩ = some (.pointer (some ⟨lb, 0, none⟩)) := fun o1 o2 => ((((Kept.refl [] w).alloc o1).alloc o2).cell hlt1 (by simp)).trans c
  have hc0 : ∀ o1 o2, ((w.alloc o1).alloc o2).cell? ⟨lb, 0, none⟩ = some (.int .i64 (most : Int)) := fun o1 o2 => ((((Kept.refl [] w).alloc o1).alloc o2).cell hlt2 (by simp)).trans c0
  have k0 : (0 : Int) ≤ k := by omega
  have k1 : (k : Int) ≤ 8 := by simp at hn; omega
  by_cases he : k + 1 = most
  · have hE := hid (show failN most (s, k) = (3, k + 1) by unfold failN; rw [if_pos he])
    rw [hE.out]
    have he1 : (k : Int) + 1 = most := by omega
    have he2 : decide ((k : Int) + 1 = most) = true := decide_eq_true he1
    clear he
    go_enter Try.func49, Try.ntmps49
    go_wp2_with fail
    go_quiet (fail)
    go_wp2_with fail
    refine bodyPost_ret (v := .agg #[.int .i64 3, .int .i64 (most : Int)]) (by simp [results, Try.results49, go_sem]) rfl ⟨by rw [show ((k + 1 : Nat) : Int) = (most : Int) by omega], ?_⟩
    exact (((((Kept.refl [] w).alloc _).alloc _).drewN _).setCell (.inr (by simp)) _).setCell (.inr (by simp)) _
  · have hE := hid (show failN most (s, k) = (0, k + 1) by unfold failN; rw [if_neg he])
    rw [hE.out]
    have he2 : decide ((k : Int) + 1 = most) = false := decide_eq_false (by omega)
    go_enter Try.func49, Try.ntmps49
    go_wp2_with fail
    go_quiet (fail)
    go_wp2_with fail
    refine bodyPost_ret (v := .agg #[.int .i64 0, .int .i64 ((k : Int) + 1)]) (by simp [results, Try.results49, go_sem]) rfl ⟨by rw [show ((k + 1 : Nat) : Int) = (k : Int) + 1 by omega], ?_⟩
    exact (((((Kept.refl [] w).alloc _).alloc _).drewN _).setCell (.inr (by simp)) _).setCell (.inr (by simp)) _
end Go.Proofs.Ytdikijbkfhimoaa

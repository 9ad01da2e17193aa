/- The test of Due: a notification is ripe. -/
import Derived.Test.YtdikijbkfhimoaaSortP
namespace Go.Proofs.Ytdikijbkfhimoaa
open Go.RowKit Go.Maps

theorem ripe_no {delay : Nat} {at_ now : Int} {n : Note} (h : n.1 ≠ 0) : ripe delay at_ now n = false := by unfold ripe; simp [h]
theorem ripe_zero {delay : Nat} {at_ now : Int} {k : Nat} : ripe delay at_ now (0, k) = decide (at_ + (afterN delay k : Nat) ≤ now) := by unfold ripe; simp
set_option maxHeartbeats 1000000 in
theorem due1_any {w : World} {sb bb ab lb delay : Nat} {at_ now : Int} {n : Note} (hs : w.cell? ⟨sb, 0, none⟩ = some (.int .i64 at_)) (hb : w.cell? ⟨bb, 0, none⟩ = some (.pointer (some ⟨lb, 0, none⟩))) (ha : w.cell? ⟨ab, 0, none⟩ = some (.int .i64 now)) (c1 : w.cell? ⟨lb, 1, none⟩ = some (.int .i64 (delay : Int)))
    (hd : delay ≤ 3600) (hk : n.2 ≤ 8) (hat : 0 ≤ at_ ∧ at_ ≤ 1099511627776) :
    Calls Try.prog 40 #[.agg #[.int .i64 n.1, .int .i64 (n.2 : Int)], .pointer (some ⟨sb, 0, none⟩), .pointer (some ⟨bb, 0, none⟩), .pointer (some ⟨ab, 0, none⟩)] w fun e w' => e = .returned (.bool (ripe delay at_ now n)) ∧ Kept [] w w' := by
  obtain ⟨n1, k⟩ := n
  simp only at hk
  obtain ⟨a1, a2⟩ := hat
  have o := (.cells #[.int .i64 n1, .int .i64 (k : Int)] 73 (0, 0) : Obj)
  have hs' : ∀ o, (w.alloc o).cell? ⟨sb, 0, none⟩ = some (.int .i64 at_) := fun o => (((Kept.refl [] w).alloc o).cell (p := ⟨sb, 0, none⟩) (cell_lt hs) (by simp)).trans hs
  have hb' : ∀ o, (w.alloc o).cell? ⟨bb, 0, none⟩ = some (.pointer (some ⟨lb, 0, none⟩)) := fun o => (((Kept.refl [] w).alloc o).cell (p := ⟨bb, 0, none⟩) (cell_lt hb) (by simp)).trans hb
  have ha' : ∀ o, (w.alloc o).cell? ⟨ab, 0, none⟩ = some (.int .i64 now) := fun o => (((Kept.refl [] w).alloc o).cell (p := ⟨ab, 0, none⟩) (cell_lt ha) (by simp)).trans ha
  have hc' : ∀ o, (w.alloc o).cell? ⟨lb, 1, none⟩ = some (.int .i64 (delay : Int)) := fun o => (((Kept.refl [] w).alloc o).cell (p := ⟨lb, 1, none⟩) (cell_lt c1) (by simp)).trans c1
  have HA := hid (fun (o : Obj) (m : Nat) => Calls.quiet_of (w := w.alloc o) (n := m) (after_any (w := (w.alloc o).drewN m) (hc' o) hd hk))
  have bd := after_bd hd hk
  by_cases h0 : n1 = 0
  · subst h0
    have E := hid (ripe_zero (delay := delay) (at_ := at_) (now := now) (k := k))
    rw [E.out]
    generalize afterN delay k = v at *
    have b1 : (0 : Int) ≤ v := by omega
    have b2 : (v : Int) ≤ 918000 := by omega
    clear bd hs hb ha c1
    go_enter Try.func40, Try.ntmps40
    go_wp2_with fail
    go_quiet ((go_at_call 41; with_reducible exact HA.out _ _))
    go_wp2_with fail
    go_ret
    exact ⟨rfl, ((Kept.refl [] w).alloc _).drewN _⟩
  · have E := hid (ripe_no (delay := delay) (at_ := at_) (now := now) (n := (n1, k)) h0)
    rw [E.out]
    have i0 : decide (n1 = 0) = false := decide_eq_false h0
    clear bd hs hb ha c1
    go_enter Try.func40, Try.ntmps40
    go_wp2_with fail
    go_quiet (fail)
    go_wp2_with fail
    go_ret
    exact ⟨rfl, ((Kept.refl [] w).alloc _).drewN _⟩
end Go.Proofs.Ytdikijbkfhimoaa

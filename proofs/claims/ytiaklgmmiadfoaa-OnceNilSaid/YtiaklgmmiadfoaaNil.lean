/- OnceNil: a register that New did not return; the walk. -/
import Derived.Test.YtiaklgmmiadfoaaOpen
namespace Go.Proofs.Ytiaklgmmiadfoaa
open Go.RowKit Go.Maps Go.WideMaps

/-- A register that New did not return. -/
def Dead (w : World) (p : Option Addr) : Prop := p = none ∨ ∃ b, p = some ⟨b, 0, none⟩ ∧ w.cell? ⟨b, 0, none⟩ = some (.map none)
theorem Dead.drewN {w : World} {p : Option Addr} (h : Dead w p) (n : Nat) : Dead (w.drewN n) p := h

set_option maxHeartbeats 400000 in
theorem ready_dead {w : World} {p : Option Addr} (h : Dead w p) :
    Calls Try.prog 24 #[.pointer p] w fun e w' => e = .returned (.bool false) ∧ w = w' := by
  have hn : ∀ (w : World) (r : Option Nat), (binOp .neq 47 (.map r) (.map none)).run Try.prog w = .ok (.bool (!r.isNone)) w := fun w r => run_neq_map_nil w _ _ _ r Try.underlying47
  rcases h with rfl | ⟨b, rfl, hc⟩
  · go_enter Try.func24, Try.ntmps24
    go_wp2
    go_ret
    exact ⟨rfl, rfl⟩
  · go_enter Try.func24, Try.ntmps24
    go_wp2
    go_ret
    exact ⟨rfl, rfl⟩
set_option maxHeartbeats 400000 in
theorem use_dead {w : World} {p : Option Addr} (h : Dead w p) (s : ByteArray) (u n : Int) :
    Calls Try.prog 13 #[.pointer p, .string s, .int .i64 u, .int .i64 n] w fun e w' => e = .returned (.int .i64 1) ∧ w = w' := by
  go_enter Try.func13, Try.ntmps13
  go_wp2_with (go_at_call 24; refine (ready_dead h).mono ?_; rintro e w' ⟨rfl, rfl⟩)
  go_ret
  exact ⟨rfl, rfl⟩
set_option maxHeartbeats 400000 in
theorem purge_dead {w : World} {p : Option Addr} (h : Dead w p) (n : Int) :
    Calls Try.prog 17 #[.pointer p, .int .i64 n] w fun e w' => e = .returned (.int .i64 0) ∧ w = w' := by
  go_enter Try.func17, Try.ntmps17
  go_wp2_with (go_at_call 24; refine (ready_dead h).mono ?_; rintro e w' ⟨rfl, rfl⟩)
  go_ret
  exact ⟨rfl, rfl⟩
set_option maxHeartbeats 400000 in
theorem len_dead {w : World} {p : Option Addr} (h : Dead w p) :
    Calls Try.prog 19 #[.pointer p] w fun e w' => e = .returned (.int .i64 0) ∧ w = w' := by
  go_enter Try.func19, Try.ntmps19
  go_wp2_with (go_at_call 24; refine (ready_dead h).mono ?_; rintro e w' ⟨rfl, rfl⟩)
  go_ret
  exact ⟨rfl, rfl⟩
set_option maxHeartbeats 400000 in
theorem seen_dead {w : World} {p : Option Addr} (h : Dead w p) (s : ByteArray) (n : Int) :
    Calls Try.prog 15 #[.pointer p, .string s, .int .i64 n] w fun e w' => e = .returned (.bool false) ∧ ∃ m, w' = w.drewN m := by
  go_enter Try.func15, Try.ntmps15
  go_wp2_with fail
  go_quiet ((go_at_call 24; exact Calls.quiet_of_same ((ready_dead (h.drewN _)).mono fun _ _ h => ⟨h.1, h.2.symm⟩)))
  go_wp2_with fail
  go_ret
  exact ⟨rfl, _, rfl⟩

set_option maxHeartbeats 2000000 in
set_option maxRecDepth 100000 in
theorem nil_walk {w : World} (s : ByteArray) (_hs : s.size ≤ maxLen) (u : Int) (_hu : (Lit.int .i64 u).wf = true) (n : Int) (_hn : (Lit.int .i64 n).wf = true) :
    Calls Try.prog 8 #[.string s, .int .i64 u, .int .i64 n] w fun e w' => e = .returned (.bool true) ∧ Below w.heap.size w w' := by
  by_cases h100 : (100 : Int) < s.size
  · go_enter Try.func8, Try.ntmps8
    go_wp2_with (go_at_call 10; refine (alive_any _).mono ?_; rintro e w1 ⟨rfl, hk1⟩)
    go_ret
    exact ⟨rfl, hk1.toBelow (by simp)⟩
  go_enter Try.func8, Try.ntmps8
  go_wp2_with fail
  go_loopw [19] (fun i wr => ∃ k : Nat, k ≤ 2 ∧ i = .int .i64 k ∧ wr.cell? ⟨w.heap.size + 1, 0, none⟩ = some (.pointer none) ∧ wr.cell? ⟨w.heap.size + 1, 1, none⟩ = some (.pointer (some ⟨w.heap.size, 0, none⟩)) ∧ wr.cell? ⟨w.heap.size, 0, none⟩ = some (.map none) ∧ Kept [] w wr) (fun i _ => 2 - (intOf i).toNat)
  case atStart => exact ⟨0, by omega, rfl, by simp [go_sem], by simp [go_sem], by simp [go_sem], ((Kept.refl [] w).alloc _).alloc _⟩
  case round =>
    obtain ⟨k, hk, rfl, h0, h1, hb, hkw⟩ := hrel
    by_cases hlt : k < 2
    · obtain ⟨p, hp, hd⟩ : ∃ p, wr.cell? ⟨w.heap.size + 1, k, none⟩ = some (.pointer p) ∧ Dead wr p := by
        rcases (show k = 0 ∨ k = 1 by omega) with rfl | rfl
        · exact ⟨_, h0, .inl rfl⟩
        · exact ⟨_, h1, .inr ⟨_, rfl, hb⟩⟩
      go_wp2_with (first
        | (go_at_call 13; refine (use_dead hd _ _ _).mono ?_; rintro e w' ⟨rfl, rfl⟩)
        | (go_at_call 15; refine (seen_dead hd _ _).mono ?_; rintro e w' ⟨rfl, m, rfl⟩)
        | (go_at_call 17; refine (purge_dead (hd.drewN _) _).mono ?_; rintro e w' ⟨rfl, rfl⟩)
        | (go_at_call 19; refine (len_dead (hd.drewN _)).mono ?_; rintro e w' ⟨rfl, rfl⟩))
      go_roundw
      case rel => exact ⟨k + 1, by omega, by go_num, h0, h1, hb, hkw.drewN _⟩
      case measure => simp [intOf]; omega
    · go_wp2_with (go_at_call 10; refine (alive_any _).mono ?_; rintro e w1 ⟨rfl, hk1⟩)
      go_ret
      exact ⟨rfl, (hkw.step hk1 (by simp)).toBelow (by simp)⟩

end Go.Proofs.Ytiaklgmmiadfoaa

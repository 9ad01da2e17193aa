/- Leaf contracts: limited, Limit, Add. -/
import Derived.Test.YtdikijbkfhimoaaBase
namespace Go.Proofs.Ytdikijbkfhimoaa
open Go.RowKit

set_option maxHeartbeats 400000 in
theorem limited_any (t : Int) (w : World) :
    Calls Try.prog 58 #[.int .i64 t] w fun e w' => e = .returned (.int .i64 (lim t)) ∧ w = w' := by
  go_enter Try.func58, Try.ntmps58
  go_wp2
  all_goals (go_ret; exact ⟨ret_int (by unfold lim; omega), rfl⟩)

set_option maxHeartbeats 400000 in
theorem limit_any (t : Int) (w : World) :
    Calls Try.prog 39 #[.int .i64 t] w fun e w' => e = .returned (.int .i64 (lim t)) ∧ w = w' := by
  go_enter Try.func39, Try.ntmps39
  go_wp2
  all_goals (go_ret; exact ⟨ret_int (by unfold lim; omega), rfl⟩)

/-- clock.Add -/
def add (t d : Int) : Int := lim (lim t + lim d)
set_option maxHeartbeats 400000 in
theorem add_any (t d : Int) (w : World) :
    Calls Try.prog 32 #[.int .i64 t, .int .i64 d] w fun e w' => e = .returned (.int .i64 (add t d)) ∧ w = w' := by
  have h1 := lim_bd t
  have h2 := lim_bd d
  go_enter Try.func32, Try.ntmps32
  go_wp2_with (go_at_call 58; refine (limited_any _ _).mono ?_; rintro e w' ⟨rfl, rfl⟩)
  go_ret
  exact ⟨rfl, rfl⟩
theorem add_zero (t : Int) : add t 0 = lim t := by unfold add lim; omega

theorem add0_any (t : Int) (w : World) :
    Calls Try.prog 32 #[.int .i64 t, .int .i64 0] w fun e w' => e = .returned (.int .i64 (lim t)) ∧ w = w' := by
  have h := add_any t 0 w
  rw [add_zero] at h
  exact h

end Go.Proofs.Ytdikijbkfhimoaa

/- Leaf contracts: limited, Instant, Add. -/
import Derived.Test.YtionejokdfgmhaaBase
namespace Go.Proofs.Ytionejokdfgmhaa
open Go.RowKit

set_option maxHeartbeats 400000 in
theorem limited_any (t : Int) (w : World) :
    Calls Try.prog 45 #[.int .i64 t] w fun e w' => e = .returned (.int .i64 (lim t)) ∧ w = w' := by
  go_enter Try.func45, Try.ntmps45
  go_wp2
  all_goals (go_ret; exact ⟨ret_int (by unfold lim; omega), rfl⟩)
set_option maxHeartbeats 400000 in
theorem wlimited_any (t : Int) (w : World) :
    Calls Try.prog 37 #[.int .i64 t] w fun e w' => e = .returned (.int .i64 (lim t)) ∧ w = w' := by
  go_enter Try.func37, Try.ntmps37
  go_wp2
  all_goals (go_ret; exact ⟨ret_int (by unfold lim; omega), rfl⟩)
set_option maxHeartbeats 400000 in
theorem instant_any (t : Int) (w : World) :
    Calls Try.prog 50 #[.int .i64 t] w fun e w' => e = .returned (.int .i64 (lim t)) ∧ w = w' := by
  go_enter Try.func50, Try.ntmps50
  go_wp2
  all_goals (go_ret; exact ⟨ret_int (by unfold lim; omega), rfl⟩)

/-- clock.Add -/
def add (t d : Int) : Int := lim (lim t + lim d)
set_option maxHeartbeats 400000 in
theorem add_any (t d : Int) (w : World) :
    Calls Try.prog 23 #[.int .i64 t, .int .i64 d] w fun e w' => e = .returned (.int .i64 (add t d)) ∧ w = w' := by
  have h1 := lim_bd t
  have h2 := lim_bd d
  go_enter Try.func23, Try.ntmps23
  go_wp2_with (go_at_call 45; refine (limited_any _ _).mono ?_; rintro e w' ⟨rfl, rfl⟩)
  go_ret
  exact ⟨rfl, rfl⟩
end Go.Proofs.Ytionejokdfgmhaa

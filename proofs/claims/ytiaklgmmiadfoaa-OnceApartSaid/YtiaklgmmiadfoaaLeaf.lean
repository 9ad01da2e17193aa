/- Leaf contracts. -/
import Derived.Test.YtiaklgmmiadfoaaRows
import Derived.WalkKit
import Derived.WalkSpells
import Derived.WalkLawsBesides
namespace Go.Proofs.Ytiaklgmmiadfoaa
open Go.RowKit

theorem hid {p : Prop} (h : p) : Hid p := h
theorem ret_int {k : IntKind} {a b : Int} (h : a = b) : Ending.returned (.int k a) = .returned (.int k b) := by rw [h]
theorem ret_bool {a b : Bool} (h : a = b) : Ending.returned (.bool a) = .returned (.bool b) := by rw [h]

/-- clock.limited -/
def lim (t : Int) : Int := min (max t 0) 1099511627776
theorem lim_bd (t : Int) : 0 ≤ lim t ∧ lim t ≤ 1099511627776 := by unfold lim; omega
theorem lim_lim (t : Int) : lim (lim t) = lim t := by unfold lim; omega
theorem lim_id (t : Int) (h : 0 ≤ t) (h' : t ≤ 1099511627776) : lim t = t := by unfold lim; omega

set_option maxHeartbeats 400000 in
theorem limited_any (t : Int) (w : World) :
    Calls Try.prog 29 #[.int .i64 t] w fun e w' => e = .returned (.int .i64 (lim t)) ∧ w = w' := by
  go_enter Try.func29, Try.ntmps29
  go_wp2
  all_goals (go_ret; exact ⟨ret_int (by unfold lim; omega), rfl⟩)

set_option maxHeartbeats 400000 in
theorem limit_any (t : Int) (w : World) :
    Calls Try.prog 26 #[.int .i64 t] w fun e w' => e = .returned (.int .i64 (lim t)) ∧ w = w' := by
  go_enter Try.func26, Try.ntmps26
  go_wp2
  all_goals (go_ret; exact ⟨ret_int (by unfold lim; omega), rfl⟩)

/-- clock.Add -/
def add (t d : Int) : Int := lim (lim t + lim d)
set_option maxHeartbeats 400000 in
theorem add_any (t d : Int) (w : World) :
    Calls Try.prog 22 #[.int .i64 t, .int .i64 d] w fun e w' => e = .returned (.int .i64 (add t d)) ∧ w = w' := by
  have h1 := lim_bd t
  have h2 := lim_bd d
  go_enter Try.func22, Try.ntmps22
  go_wp2_with (go_at_call 29; refine (limited_any _ _).mono ?_; rintro e w' ⟨rfl, rfl⟩)
  go_ret
  exact ⟨rfl, rfl⟩
theorem add_zero (t : Int) : add t 0 = lim t := by unfold add lim; omega

theorem add0_any (t : Int) (w : World) :
    Calls Try.prog 22 #[.int .i64 t, .int .i64 0] w fun e w' => e = .returned (.int .i64 (lim t)) ∧ w = w' := by
  have h := add_any t 0 w
  rw [add_zero] at h
  exact h

end Go.Proofs.Ytiaklgmmiadfoaa

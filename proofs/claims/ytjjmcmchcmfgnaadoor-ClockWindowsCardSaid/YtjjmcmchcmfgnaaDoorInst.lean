/- Contracts: Valid, Add, Sub, In, Check, Common, of both sides. -/
import Derived.Test.YtjjmcmchcmfgnaaDoorLeaf
import Derived.Test.YtjjmcmchcmfgnaaDoorWin
namespace Go.Proofs.YtjjmcmchcmfgnaaDoor
open Go.RowKit

/-- A window by value. -/
def winV (x : Win) : Value := .agg #[.int .i64 x.1, .int .i64 x.2]
def valid (t : Int) : Bool := decide (t = lim t)
set_option maxHeartbeats 400000 in
theorem valid_any (t : Int) (w : World) :
    Calls Tryd.prog 9 #[.int .i64 t] w fun e w' => e = .returned (.bool (valid t)) ∧ w = w' := by
  go_enter Tryd.func9, Tryd.ntmps9
  go_wp2_with (go_at_call 29; refine (limited_any _ _).mono ?_; rintro e w' ⟨rfl, rfl⟩)
  all_goals (go_ret; exact ⟨ret_bool (by unfold valid; generalize lim t = u; by_cases h : t = u <;> simp [h]), rfl⟩)
set_option maxHeartbeats 400000 in
theorem rvalid_any (t : Int) (w : World) :
    Calls Tryd.prog 10 #[.int .i64 t] w fun e w' => e = .returned (.bool (valid t)) ∧ w = w' := by
  go_enter Tryd.func10, Tryd.ntmps10
  go_wp2
  all_goals (go_ret; exact ⟨ret_bool (by unfold valid lim; simp; try omega), rfl⟩)
set_option maxHeartbeats 400000 in
theorem radd_any (t d : Int) (w : World) :
    Calls Tryd.prog 12 #[.int .i64 t, .int .i64 d] w fun e w' => e = .returned (.int .i64 (add t d)) ∧ w = w' := by
  have h1 := lim_bd t
  have h2 := lim_bd d
  go_enter Tryd.func12, Tryd.ntmps12
  go_wp2_with (go_at_call 30; refine (limit_any _ _).mono ?_; rintro e w' ⟨rfl, rfl⟩)
  go_ret
  exact ⟨rfl, rfl⟩
def sub (a b : Int) : Int := lim a - lim b
set_option maxHeartbeats 400000 in
theorem sub_any (a b : Int) (w : World) :
    Calls Tryd.prog 13 #[.int .i64 a, .int .i64 b] w fun e w' => e = .returned (.int .i64 (sub a b)) ∧ w = w' := by
  have h1 := lim_bd a
  have h2 := lim_bd b
  go_enter Tryd.func13, Tryd.ntmps13
  go_wp2_with (go_at_call 29; refine (limited_any _ _).mono ?_; rintro e w' ⟨rfl, rfl⟩)
  go_ret
  exact ⟨rfl, rfl⟩
set_option maxHeartbeats 400000 in
theorem rsub_any (a b : Int) (w : World) :
    Calls Tryd.prog 14 #[.int .i64 a, .int .i64 b] w fun e w' => e = .returned (.int .i64 (sub a b)) ∧ w = w' := by
  have h1 := lim_bd a
  have h2 := lim_bd b
  go_enter Tryd.func14, Tryd.ntmps14
  go_wp2_with (go_at_call 30; refine (limit_any _ _).mono ?_; rintro e w' ⟨rfl, rfl⟩)
  go_ret
  exact ⟨rfl, rfl⟩
/-- An instant lies in a window. -/
def inW (x : Win) (t : Int) : Bool := decide (x.1 ≤ lim t) && decide (lim t < x.2)
set_option maxHeartbeats 400000 in
theorem in_any (x : Win) (t : Int) (w : World) :
    Calls Tryd.prog 16 #[winV x, .int .i64 t] w fun e w' => e = .returned (.bool (inW x t)) ∧ Kept [] w w' := by
  unfold winV
  go_enter Tryd.func16, Tryd.ntmps16
  go_wp2_with (go_at_call 29; refine (limited_any _ _).mono ?_; rintro e w' ⟨rfl, rfl⟩)
  all_goals (go_ret; exact ⟨ret_bool (by unfold inW; simp_all; try omega), (Kept.refl _ _).alloc _⟩)
set_option maxHeartbeats 400000 in
theorem rin_any (x : Win) (t : Int) (w : World) :
    Calls Tryd.prog 17 #[winV x, .int .i64 t] w fun e w' => e = .returned (.bool (inW x t)) ∧ Kept [] w w' := by
  unfold winV
  obtain ⟨b, hb⟩ : ∃ b, decide (x.1 ≤ lim t) = b := ⟨_, rfl⟩
  cases b
  all_goals (
    go_enter Tryd.func17, Tryd.ntmps17
    go_wp2_with fail
    go_quiet ((go_at_call 30; exact Calls.quiet_of_same ((limit_any _ _).mono fun _ _ h => ⟨h.1, h.2.symm⟩)))
    go_wp2_with fail)
  all_goals (go_ret; exact ⟨ret_bool (by unfold inW; simp_all; try omega), ((Kept.refl _ _).alloc _).drewN _⟩)
/-- What Check answers. -/
def chk (x : Win) (t k : Int) : Int := if x.1 > x.2 then 2 else if lim t + min (max k 0) 600 < x.1 then 14 else if lim t - min (max k 0) 600 ≥ x.2 then 13 else 0
set_option maxHeartbeats 400000 in
theorem check_any (x : Win) (t k : Int) (w : World) :
    Calls Tryd.prog 18 #[winV x, .int .i64 t, .int .i64 k] w fun e w' => e = .returned (.int .i64 (chk x t k)) ∧ Kept [] w w' := by
  have hL := lim_bd t
  unfold winV
  obtain ⟨o, ho⟩ : ∃ o : Int, Hid (min (max k 0) 600 = o) := ⟨_, hid rfl⟩
  have E := hid (show chk x t k = if x.1 > x.2 then 2 else if lim t + o < x.1 then 14 else if lim t - o ≥ x.2 then 13 else 0 by unfold chk; rw [ho.out])
  generalize chk x t k = R at *
  rcases (show (k < 0 ∧ o = 0) ∨ (k = 0 ∧ o = 0) ∨ (0 < k ∧ k ≤ 600 ∧ o = k) ∨ (600 < k ∧ o = 600) by have := ho.out; omega) with ⟨hk, rfl⟩ | ⟨rfl, rfl⟩ | ⟨hk, hk2, rfl⟩ | ⟨hk, rfl⟩
  · clear ho
    rw [Int.add_zero, Int.sub_zero] at E
    rcases (show x.2 < x.1 ∨ x.1 ≤ x.2 by omega) with hx | hx
    · obtain rfl : R = 2 := by rw [E.out]; rw [if_pos hx]
      clear E
      go_enter Tryd.func18, Tryd.ntmps18
      go_wp2_with (go_at_call 29; refine (limited_any _ _).mono ?_; rintro e w' ⟨rfl, rfl⟩)
      go_ret
      exact ⟨rfl, (Kept.refl _ _).alloc _⟩
    · rcases (show lim t < x.1 ∨ x.1 ≤ lim t by omega) with h1 | h1
      · obtain rfl : R = 14 := by rw [E.out]; rw [if_neg (by omega), if_pos h1]
        clear E
        go_enter Tryd.func18, Tryd.ntmps18
        go_wp2_with (go_at_call 29; refine (limited_any _ _).mono ?_; rintro e w' ⟨rfl, rfl⟩)
        go_ret
        exact ⟨rfl, (Kept.refl _ _).alloc _⟩
      · rcases (show x.2 ≤ lim t ∨ lim t < x.2 by omega) with h2 | h2
        · obtain rfl : R = 13 := by rw [E.out]; rw [if_neg (by omega), if_neg (by omega), if_pos h2]
          clear E
          go_enter Tryd.func18, Tryd.ntmps18
          go_wp2_with (go_at_call 29; refine (limited_any _ _).mono ?_; rintro e w' ⟨rfl, rfl⟩)
          go_ret
          exact ⟨rfl, (Kept.refl _ _).alloc _⟩
        · obtain rfl : R = 0 := by rw [E.out]; rw [if_neg (by omega), if_neg (by omega), if_neg (by omega)]
          clear E
          go_enter Tryd.func18, Tryd.ntmps18
          go_wp2_with (go_at_call 29; refine (limited_any _ _).mono ?_; rintro e w' ⟨rfl, rfl⟩)
          go_ret
          exact ⟨rfl, (Kept.refl _ _).alloc _⟩
  · clear ho
    rw [Int.add_zero, Int.sub_zero] at E
    rcases (show x.2 < x.1 ∨ x.1 ≤ x.2 by omega) with hx | hx
    · obtain rfl : R = 2 := by rw [E.out]; rw [if_pos hx]
      clear E
      go_enter Tryd.func18, Tryd.ntmps18
      go_wp2_with (go_at_call 29; refine (limited_any _ _).mono ?_; rintro e w' ⟨rfl, rfl⟩)
      go_ret
      exact ⟨rfl, (Kept.refl _ _).alloc _⟩
    · rcases (show lim t < x.1 ∨ x.1 ≤ lim t by omega) with h1 | h1
      · obtain rfl : R = 14 := by rw [E.out]; rw [if_neg (by omega), if_pos h1]
        clear E
        go_enter Tryd.func18, Tryd.ntmps18
        go_wp2_with (go_at_call 29; refine (limited_any _ _).mono ?_; rintro e w' ⟨rfl, rfl⟩)
        go_ret
        exact ⟨rfl, (Kept.refl _ _).alloc _⟩
      · rcases (show x.2 ≤ lim t ∨ lim t < x.2 by omega) with h2 | h2
        · obtain rfl : R = 13 := by rw [E.out]; rw [if_neg (by omega), if_neg (by omega), if_pos h2]
          clear E
          go_enter Tryd.func18, Tryd.ntmps18
          go_wp2_with (go_at_call 29; refine (limited_any _ _).mono ?_; rintro e w' ⟨rfl, rfl⟩)
          go_ret
          exact ⟨rfl, (Kept.refl _ _).alloc _⟩
        · obtain rfl : R = 0 := by rw [E.out]; rw [if_neg (by omega), if_neg (by omega), if_neg (by omega)]
          clear E
          go_enter Tryd.func18, Tryd.ntmps18
          go_wp2_with (go_at_call 29; refine (limited_any _ _).mono ?_; rintro e w' ⟨rfl, rfl⟩)
          go_ret
          exact ⟨rfl, (Kept.refl _ _).alloc _⟩
  · clear ho
    rcases (show x.2 < x.1 ∨ x.1 ≤ x.2 by omega) with hx | hx
    · obtain rfl : R = 2 := by rw [E.out]; rw [if_pos hx]
      clear E
      go_enter Tryd.func18, Tryd.ntmps18
      go_wp2_with (go_at_call 29; refine (limited_any _ _).mono ?_; rintro e w' ⟨rfl, rfl⟩)
      go_ret
      exact ⟨rfl, (Kept.refl _ _).alloc _⟩
    · rcases (show lim t + o < x.1 ∨ x.1 ≤ lim t + o by omega) with h1 | h1
      · obtain rfl : R = 14 := by rw [E.out]; rw [if_neg (by omega), if_pos h1]
        clear E
        go_enter Tryd.func18, Tryd.ntmps18
        go_wp2_with (go_at_call 29; refine (limited_any _ _).mono ?_; rintro e w' ⟨rfl, rfl⟩)
        go_ret
        exact ⟨rfl, (Kept.refl _ _).alloc _⟩
      · rcases (show x.2 ≤ lim t - o ∨ lim t - o < x.2 by omega) with h2 | h2
        · obtain rfl : R = 13 := by rw [E.out]; rw [if_neg (by omega), if_neg (by omega), if_pos h2]
          clear E
          go_enter Tryd.func18, Tryd.ntmps18
          go_wp2_with (go_at_call 29; refine (limited_any _ _).mono ?_; rintro e w' ⟨rfl, rfl⟩)
          go_ret
          exact ⟨rfl, (Kept.refl _ _).alloc _⟩
        · obtain rfl : R = 0 := by rw [E.out]; rw [if_neg (by omega), if_neg (by omega), if_neg (by omega)]
          clear E
          go_enter Tryd.func18, Tryd.ntmps18
          go_wp2_with (go_at_call 29; refine (limited_any _ _).mono ?_; rintro e w' ⟨rfl, rfl⟩)
          go_ret
          exact ⟨rfl, (Kept.refl _ _).alloc _⟩
  · clear ho
    rcases (show x.2 < x.1 ∨ x.1 ≤ x.2 by omega) with hx | hx
    · obtain rfl : R = 2 := by rw [E.out]; rw [if_pos hx]
      clear E
      go_enter Tryd.func18, Tryd.ntmps18
      go_wp2_with (go_at_call 29; refine (limited_any _ _).mono ?_; rintro e w' ⟨rfl, rfl⟩)
      go_ret
      exact ⟨rfl, (Kept.refl _ _).alloc _⟩
    · rcases (show lim t + 600 < x.1 ∨ x.1 ≤ lim t + 600 by omega) with h1 | h1
      · obtain rfl : R = 14 := by rw [E.out]; rw [if_neg (by omega), if_pos h1]
        clear E
        go_enter Tryd.func18, Tryd.ntmps18
        go_wp2_with (go_at_call 29; refine (limited_any _ _).mono ?_; rintro e w' ⟨rfl, rfl⟩)
        go_ret
        exact ⟨rfl, (Kept.refl _ _).alloc _⟩
      · rcases (show x.2 ≤ lim t - 600 ∨ lim t - 600 < x.2 by omega) with h2 | h2
        · obtain rfl : R = 13 := by rw [E.out]; rw [if_neg (by omega), if_neg (by omega), if_pos h2]
          clear E
          go_enter Tryd.func18, Tryd.ntmps18
          go_wp2_with (go_at_call 29; refine (limited_any _ _).mono ?_; rintro e w' ⟨rfl, rfl⟩)
          go_ret
          exact ⟨rfl, (Kept.refl _ _).alloc _⟩
        · obtain rfl : R = 0 := by rw [E.out]; rw [if_neg (by omega), if_neg (by omega), if_neg (by omega)]
          clear E
          go_enter Tryd.func18, Tryd.ntmps18
          go_wp2_with (go_at_call 29; refine (limited_any _ _).mono ?_; rintro e w' ⟨rfl, rfl⟩)
          go_ret
          exact ⟨rfl, (Kept.refl _ _).alloc _⟩
set_option maxHeartbeats 400000 in
theorem rcheck_any (x : Win) (t k : Int) (w : World) :
    Calls Tryd.prog 19 #[winV x, .int .i64 t, .int .i64 k] w fun e w' => e = .returned (.int .i64 (chk x t k)) ∧ Kept [] w w' := by
  have hL := lim_bd t
  unfold winV
  obtain ⟨o, ho⟩ : ∃ o : Int, Hid (min (max k 0) 600 = o) := ⟨_, hid rfl⟩
  have E := hid (show chk x t k = if x.1 > x.2 then 2 else if lim t + o < x.1 then 14 else if lim t - o ≥ x.2 then 13 else 0 by unfold chk; rw [ho.out])
  generalize chk x t k = R at *
  rcases (show (k < 0 ∧ o = 0) ∨ (k = 0 ∧ o = 0) ∨ (0 < k ∧ k ≤ 600 ∧ o = k) ∨ (600 < k ∧ o = 600) by have := ho.out; omega) with ⟨hk, rfl⟩ | ⟨rfl, rfl⟩ | ⟨hk, hk2, rfl⟩ | ⟨hk, rfl⟩
  · clear ho
    rw [Int.add_zero, Int.sub_zero] at E
    rcases (show x.2 < x.1 ∨ x.1 ≤ x.2 by omega) with hx | hx
    · obtain rfl : R = 2 := by rw [E.out]; rw [if_pos hx]
      clear E
      go_enter Tryd.func19, Tryd.ntmps19
      go_wp2_with fail
      go_ret
      exact ⟨rfl, (Kept.refl _ _).alloc _⟩
    · rcases (show lim t < x.1 ∨ x.1 ≤ lim t by omega) with h1 | h1
      · obtain rfl : R = 14 := by rw [E.out]; rw [if_neg (by omega), if_pos h1]
        clear E
        go_enter Tryd.func19, Tryd.ntmps19
        go_wp2_with fail
        go_quiet ((go_at_call 30; refine (limit_any _ _).mono fun e w2 hh => ⟨hh.1, ?_⟩; obtain rfl := hh.2; first | exact ⟨_, rfl⟩ | exact ⟨_, World.drewN_drewN _ _ _⟩ | exact ⟨_, (World.drewN_drewN _ _ _).symm⟩))
        go_wp2_with fail
        go_ret
        exact ⟨rfl, ((Kept.refl _ _).alloc _).drewN _⟩
      · rcases (show x.2 ≤ lim t ∨ lim t < x.2 by omega) with h2 | h2
        · obtain rfl : R = 13 := by rw [E.out]; rw [if_neg (by omega), if_neg (by omega), if_pos h2]
          clear E
          go_enter Tryd.func19, Tryd.ntmps19
          go_wp2_with fail
          go_quiet ((go_at_call 30; refine (limit_any _ _).mono fun e w2 hh => ⟨hh.1, ?_⟩; obtain rfl := hh.2; first | exact ⟨_, rfl⟩ | exact ⟨_, World.drewN_drewN _ _ _⟩ | exact ⟨_, (World.drewN_drewN _ _ _).symm⟩))
          go_wp2_with fail
          go_quiet ((go_at_call 30; refine (limit_any _ _).mono fun e w2 hh => ⟨hh.1, ?_⟩; obtain rfl := hh.2; first | exact ⟨_, rfl⟩ | exact ⟨_, World.drewN_drewN _ _ _⟩ | exact ⟨_, (World.drewN_drewN _ _ _).symm⟩))
          go_wp2_with fail
          go_ret
          exact ⟨rfl, (((Kept.refl _ _).alloc _).drewN _).drewN _⟩
        · obtain rfl : R = 0 := by rw [E.out]; rw [if_neg (by omega), if_neg (by omega), if_neg (by omega)]
          clear E
          go_enter Tryd.func19, Tryd.ntmps19
          go_wp2_with fail
          go_quiet ((go_at_call 30; refine (limit_any _ _).mono fun e w2 hh => ⟨hh.1, ?_⟩; obtain rfl := hh.2; first | exact ⟨_, rfl⟩ | exact ⟨_, World.drewN_drewN _ _ _⟩ | exact ⟨_, (World.drewN_drewN _ _ _).symm⟩))
          go_wp2_with fail
          go_quiet ((go_at_call 30; refine (limit_any _ _).mono fun e w2 hh => ⟨hh.1, ?_⟩; obtain rfl := hh.2; first | exact ⟨_, rfl⟩ | exact ⟨_, World.drewN_drewN _ _ _⟩ | exact ⟨_, (World.drewN_drewN _ _ _).symm⟩))
          go_wp2_with fail
          go_ret
          exact ⟨rfl, (((Kept.refl _ _).alloc _).drewN _).drewN _⟩
  · clear ho
    rw [Int.add_zero, Int.sub_zero] at E
    rcases (show x.2 < x.1 ∨ x.1 ≤ x.2 by omega) with hx | hx
    · obtain rfl : R = 2 := by rw [E.out]; rw [if_pos hx]
      clear E
      go_enter Tryd.func19, Tryd.ntmps19
      go_wp2_with fail
      go_ret
      exact ⟨rfl, (Kept.refl _ _).alloc _⟩
    · rcases (show lim t < x.1 ∨ x.1 ≤ lim t by omega) with h1 | h1
      · obtain rfl : R = 14 := by rw [E.out]; rw [if_neg (by omega), if_pos h1]
        clear E
        go_enter Tryd.func19, Tryd.ntmps19
        go_wp2_with fail
        go_quiet ((go_at_call 30; refine (limit_any _ _).mono fun e w2 hh => ⟨hh.1, ?_⟩; obtain rfl := hh.2; first | exact ⟨_, rfl⟩ | exact ⟨_, World.drewN_drewN _ _ _⟩ | exact ⟨_, (World.drewN_drewN _ _ _).symm⟩))
        go_wp2_with fail
        go_ret
        exact ⟨rfl, ((Kept.refl _ _).alloc _).drewN _⟩
      · rcases (show x.2 ≤ lim t ∨ lim t < x.2 by omega) with h2 | h2
        · obtain rfl : R = 13 := by rw [E.out]; rw [if_neg (by omega), if_neg (by omega), if_pos h2]
          clear E
          go_enter Tryd.func19, Tryd.ntmps19
          go_wp2_with fail
          go_quiet ((go_at_call 30; refine (limit_any _ _).mono fun e w2 hh => ⟨hh.1, ?_⟩; obtain rfl := hh.2; first | exact ⟨_, rfl⟩ | exact ⟨_, World.drewN_drewN _ _ _⟩ | exact ⟨_, (World.drewN_drewN _ _ _).symm⟩))
          go_wp2_with fail
          go_quiet ((go_at_call 30; refine (limit_any _ _).mono fun e w2 hh => ⟨hh.1, ?_⟩; obtain rfl := hh.2; first | exact ⟨_, rfl⟩ | exact ⟨_, World.drewN_drewN _ _ _⟩ | exact ⟨_, (World.drewN_drewN _ _ _).symm⟩))
          go_wp2_with fail
          go_ret
          exact ⟨rfl, (((Kept.refl _ _).alloc _).drewN _).drewN _⟩
        · obtain rfl : R = 0 := by rw [E.out]; rw [if_neg (by omega), if_neg (by omega), if_neg (by omega)]
          clear E
          go_enter Tryd.func19, Tryd.ntmps19
          go_wp2_with fail
          go_quiet ((go_at_call 30; refine (limit_any _ _).mono fun e w2 hh => ⟨hh.1, ?_⟩; obtain rfl := hh.2; first | exact ⟨_, rfl⟩ | exact ⟨_, World.drewN_drewN _ _ _⟩ | exact ⟨_, (World.drewN_drewN _ _ _).symm⟩))
          go_wp2_with fail
          go_quiet ((go_at_call 30; refine (limit_any _ _).mono fun e w2 hh => ⟨hh.1, ?_⟩; obtain rfl := hh.2; first | exact ⟨_, rfl⟩ | exact ⟨_, World.drewN_drewN _ _ _⟩ | exact ⟨_, (World.drewN_drewN _ _ _).symm⟩))
          go_wp2_with fail
          go_ret
          exact ⟨rfl, (((Kept.refl _ _).alloc _).drewN _).drewN _⟩
  · clear ho
    rcases (show x.2 < x.1 ∨ x.1 ≤ x.2 by omega) with hx | hx
    · obtain rfl : R = 2 := by rw [E.out]; rw [if_pos hx]
      clear E
      go_enter Tryd.func19, Tryd.ntmps19
      go_wp2_with fail
      go_ret
      exact ⟨rfl, (Kept.refl _ _).alloc _⟩
    · rcases (show lim t + o < x.1 ∨ x.1 ≤ lim t + o by omega) with h1 | h1
      · obtain rfl : R = 14 := by rw [E.out]; rw [if_neg (by omega), if_pos h1]
        clear E
        go_enter Tryd.func19, Tryd.ntmps19
        go_wp2_with fail
        go_quiet ((go_at_call 30; refine (limit_any _ _).mono fun e w2 hh => ⟨hh.1, ?_⟩; obtain rfl := hh.2; first | exact ⟨_, rfl⟩ | exact ⟨_, World.drewN_drewN _ _ _⟩ | exact ⟨_, (World.drewN_drewN _ _ _).symm⟩))
        go_wp2_with fail
        go_ret
        exact ⟨rfl, ((Kept.refl _ _).alloc _).drewN _⟩
      · rcases (show x.2 ≤ lim t - o ∨ lim t - o < x.2 by omega) with h2 | h2
        · obtain rfl : R = 13 := by rw [E.out]; rw [if_neg (by omega), if_neg (by omega), if_pos h2]
          clear E
          go_enter Tryd.func19, Tryd.ntmps19
          go_wp2_with fail
          go_quiet ((go_at_call 30; refine (limit_any _ _).mono fun e w2 hh => ⟨hh.1, ?_⟩; obtain rfl := hh.2; first | exact ⟨_, rfl⟩ | exact ⟨_, World.drewN_drewN _ _ _⟩ | exact ⟨_, (World.drewN_drewN _ _ _).symm⟩))
          go_wp2_with fail
          go_quiet ((go_at_call 30; refine (limit_any _ _).mono fun e w2 hh => ⟨hh.1, ?_⟩; obtain rfl := hh.2; first | exact ⟨_, rfl⟩ | exact ⟨_, World.drewN_drewN _ _ _⟩ | exact ⟨_, (World.drewN_drewN _ _ _).symm⟩))
          go_wp2_with fail
          go_ret
          exact ⟨rfl, (((Kept.refl _ _).alloc _).drewN _).drewN _⟩
        · obtain rfl : R = 0 := by rw [E.out]; rw [if_neg (by omega), if_neg (by omega), if_neg (by omega)]
          clear E
          go_enter Tryd.func19, Tryd.ntmps19
          go_wp2_with fail
          go_quiet ((go_at_call 30; refine (limit_any _ _).mono fun e w2 hh => ⟨hh.1, ?_⟩; obtain rfl := hh.2; first | exact ⟨_, rfl⟩ | exact ⟨_, World.drewN_drewN _ _ _⟩ | exact ⟨_, (World.drewN_drewN _ _ _).symm⟩))
          go_wp2_with fail
          go_quiet ((go_at_call 30; refine (limit_any _ _).mono fun e w2 hh => ⟨hh.1, ?_⟩; obtain rfl := hh.2; first | exact ⟨_, rfl⟩ | exact ⟨_, World.drewN_drewN _ _ _⟩ | exact ⟨_, (World.drewN_drewN _ _ _).symm⟩))
          go_wp2_with fail
          go_ret
          exact ⟨rfl, (((Kept.refl _ _).alloc _).drewN _).drewN _⟩
  · clear ho
    rcases (show x.2 < x.1 ∨ x.1 ≤ x.2 by omega) with hx | hx
    · obtain rfl : R = 2 := by rw [E.out]; rw [if_pos hx]
      clear E
      go_enter Tryd.func19, Tryd.ntmps19
      go_wp2_with fail
      go_ret
      exact ⟨rfl, (Kept.refl _ _).alloc _⟩
    · rcases (show lim t + 600 < x.1 ∨ x.1 ≤ lim t + 600 by omega) with h1 | h1
      · obtain rfl : R = 14 := by rw [E.out]; rw [if_neg (by omega), if_pos h1]
        clear E
        go_enter Tryd.func19, Tryd.ntmps19
        go_wp2_with fail
        go_quiet ((go_at_call 30; refine (limit_any _ _).mono fun e w2 hh => ⟨hh.1, ?_⟩; obtain rfl := hh.2; first | exact ⟨_, rfl⟩ | exact ⟨_, World.drewN_drewN _ _ _⟩ | exact ⟨_, (World.drewN_drewN _ _ _).symm⟩))
        go_wp2_with fail
        go_ret
        exact ⟨rfl, ((Kept.refl _ _).alloc _).drewN _⟩
      · rcases (show x.2 ≤ lim t - 600 ∨ lim t - 600 < x.2 by omega) with h2 | h2
        · obtain rfl : R = 13 := by rw [E.out]; rw [if_neg (by omega), if_neg (by omega), if_pos h2]
          clear E
          go_enter Tryd.func19, Tryd.ntmps19
          go_wp2_with fail
          go_quiet ((go_at_call 30; refine (limit_any _ _).mono fun e w2 hh => ⟨hh.1, ?_⟩; obtain rfl := hh.2; first | exact ⟨_, rfl⟩ | exact ⟨_, World.drewN_drewN _ _ _⟩ | exact ⟨_, (World.drewN_drewN _ _ _).symm⟩))
          go_wp2_with fail
          go_quiet ((go_at_call 30; refine (limit_any _ _).mono fun e w2 hh => ⟨hh.1, ?_⟩; obtain rfl := hh.2; first | exact ⟨_, rfl⟩ | exact ⟨_, World.drewN_drewN _ _ _⟩ | exact ⟨_, (World.drewN_drewN _ _ _).symm⟩))
          go_wp2_with fail
          go_ret
          exact ⟨rfl, (((Kept.refl _ _).alloc _).drewN _).drewN _⟩
        · obtain rfl : R = 0 := by rw [E.out]; rw [if_neg (by omega), if_neg (by omega), if_neg (by omega)]
          clear E
          go_enter Tryd.func19, Tryd.ntmps19
          go_wp2_with fail
          go_quiet ((go_at_call 30; refine (limit_any _ _).mono fun e w2 hh => ⟨hh.1, ?_⟩; obtain rfl := hh.2; first | exact ⟨_, rfl⟩ | exact ⟨_, World.drewN_drewN _ _ _⟩ | exact ⟨_, (World.drewN_drewN _ _ _).symm⟩))
          go_wp2_with fail
          go_quiet ((go_at_call 30; refine (limit_any _ _).mono fun e w2 hh => ⟨hh.1, ?_⟩; obtain rfl := hh.2; first | exact ⟨_, rfl⟩ | exact ⟨_, World.drewN_drewN _ _ _⟩ | exact ⟨_, (World.drewN_drewN _ _ _).symm⟩))
          go_wp2_with fail
          go_ret
          exact ⟨rfl, (((Kept.refl _ _).alloc _).drewN _).drewN _⟩
/-- The instants that two windows have in common. -/
def comW (x y : Win) : Win × Bool := if max x.1 y.1 ≥ min x.2 y.2 then ((0, 0), false) else ((max x.1 y.1, min x.2 y.2), true)
set_option maxHeartbeats 400000 in
theorem common_any (x y : Win) (w : World) :
    Calls Tryd.prog 20 #[winV x, winV y] w fun e w' => e = .returned (.tuple #[winV (comW x y).1, .bool (comW x y).2]) ∧ Kept [] w w' := by
  have k4 : ∀ a b c d, Kept [] w ((((w.alloc a).alloc b).alloc c).alloc d) := fun a b c d => ((((Kept.refl _ _).alloc _).alloc _).alloc _).alloc _
  unfold winV
  rcases (show x.1 < y.1 ∨ y.1 ≤ x.1 by omega) with h1 | h1
  · rcases (show y.2 < x.2 ∨ x.2 ≤ y.2 by omega) with h2 | h2
    · rcases (show y.2 ≤ y.1 ∨ y.1 < y.2 by omega) with h3 | h3
      · have E := hid (show comW x y = ((0, 0), false) by
          unfold comW
          rw [show max x.1 y.1 = y.1 by omega, show min x.2 y.2 = y.2 by omega, if_pos (by omega)])
        generalize comW x y = R at *
        obtain rfl := E.out
        clear E
        go_enter Tryd.func20, Tryd.ntmps20
        go_wp2
        refine bodyPost_ret (v := .tuple #[.agg #[.int .i64 0, .int .i64 0], .bool false]) (by simp [results, Tryd.results20, go_sem]) rfl ⟨rfl, ?_⟩
        exact k4 _ _ _ _
      · have E := hid (show comW x y = ((y.1, y.2), true) by
          unfold comW
          rw [show max x.1 y.1 = y.1 by omega, show min x.2 y.2 = y.2 by omega, if_neg (by omega)])
        generalize comW x y = R at *
        obtain rfl := E.out
        clear E
        go_enter Tryd.func20, Tryd.ntmps20
        go_wp2
        refine bodyPost_ret (v := .tuple #[.agg #[.int .i64 y.1, .int .i64 y.2], .bool true]) (by simp [results, Tryd.results20, go_sem]) rfl ⟨rfl, ?_⟩
        exact k4 _ _ _ _
    · rcases (show x.2 ≤ y.1 ∨ y.1 < x.2 by omega) with h3 | h3
      · have E := hid (show comW x y = ((0, 0), false) by
          unfold comW
          rw [show max x.1 y.1 = y.1 by omega, show min x.2 y.2 = x.2 by omega, if_pos (by omega)])
        generalize comW x y = R at *
        obtain rfl := E.out
        clear E
        go_enter Tryd.func20, Tryd.ntmps20
        go_wp2
        refine bodyPost_ret (v := .tuple #[.agg #[.int .i64 0, .int .i64 0], .bool false]) (by simp [results, Tryd.results20, go_sem]) rfl ⟨rfl, ?_⟩
        exact k4 _ _ _ _
      · have E := hid (show comW x y = ((y.1, x.2), true) by
          unfold comW
          rw [show max x.1 y.1 = y.1 by omega, show min x.2 y.2 = x.2 by omega, if_neg (by omega)])
        generalize comW x y = R at *
        obtain rfl := E.out
        clear E
        go_enter Tryd.func20, Tryd.ntmps20
        go_wp2
        refine bodyPost_ret (v := .tuple #[.agg #[.int .i64 y.1, .int .i64 x.2], .bool true]) (by simp [results, Tryd.results20, go_sem]) rfl ⟨rfl, ?_⟩
        exact k4 _ _ _ _
  · rcases (show y.2 < x.2 ∨ x.2 ≤ y.2 by omega) with h2 | h2
    · rcases (show y.2 ≤ x.1 ∨ x.1 < y.2 by omega) with h3 | h3
      · have E := hid (show comW x y = ((0, 0), false) by
          unfold comW
          rw [show max x.1 y.1 = x.1 by omega, show min x.2 y.2 = y.2 by omega, if_pos (by omega)])
        generalize comW x y = R at *
        obtain rfl := E.out
        clear E
        go_enter Tryd.func20, Tryd.ntmps20
        go_wp2
        refine bodyPost_ret (v := .tuple #[.agg #[.int .i64 0, .int .i64 0], .bool false]) (by simp [results, Tryd.results20, go_sem]) rfl ⟨rfl, ?_⟩
        exact k4 _ _ _ _
      · have E := hid (show comW x y = ((x.1, y.2), true) by
          unfold comW
          rw [show max x.1 y.1 = x.1 by omega, show min x.2 y.2 = y.2 by omega, if_neg (by omega)])
        generalize comW x y = R at *
        obtain rfl := E.out
        clear E
        go_enter Tryd.func20, Tryd.ntmps20
        go_wp2
        refine bodyPost_ret (v := .tuple #[.agg #[.int .i64 x.1, .int .i64 y.2], .bool true]) (by simp [results, Tryd.results20, go_sem]) rfl ⟨rfl, ?_⟩
        exact k4 _ _ _ _
    · rcases (show x.2 ≤ x.1 ∨ x.1 < x.2 by omega) with h3 | h3
      · have E := hid (show comW x y = ((0, 0), false) by
          unfold comW
          rw [show max x.1 y.1 = x.1 by omega, show min x.2 y.2 = x.2 by omega, if_pos (by omega)])
        generalize comW x y = R at *
        obtain rfl := E.out
        clear E
        go_enter Tryd.func20, Tryd.ntmps20
        go_wp2
        refine bodyPost_ret (v := .tuple #[.agg #[.int .i64 0, .int .i64 0], .bool false]) (by simp [results, Tryd.results20, go_sem]) rfl ⟨rfl, ?_⟩
        exact k4 _ _ _ _
      · have E := hid (show comW x y = ((x.1, x.2), true) by
          unfold comW
          rw [show max x.1 y.1 = x.1 by omega, show min x.2 y.2 = x.2 by omega, if_neg (by omega)])
        generalize comW x y = R at *
        obtain rfl := E.out
        clear E
        go_enter Tryd.func20, Tryd.ntmps20
        go_wp2
        refine bodyPost_ret (v := .tuple #[.agg #[.int .i64 x.1, .int .i64 x.2], .bool true]) (by simp [results, Tryd.results20, go_sem]) rfl ⟨rfl, ?_⟩
        exact k4 _ _ _ _
set_option maxHeartbeats 400000 in
theorem rcommon_any (x y : Win) (w : World) :
    Calls Tryd.prog 21 #[winV x, winV y] w fun e w' => e = .returned (.tuple #[winV (comW x y).1, .bool (comW x y).2]) ∧ Kept [] w w' := by
  have k4 : ∀ a b c d, Kept [] w ((((w.alloc a).alloc b).alloc c).alloc d) := fun a b c d => ((((Kept.refl _ _).alloc _).alloc _).alloc _).alloc _
  unfold winV
  rcases (show x.1 < y.1 ∨ y.1 ≤ x.1 by omega) with h1 | h1
  · rcases (show y.2 < x.2 ∨ x.2 ≤ y.2 by omega) with h2 | h2
    · rcases (show y.2 ≤ y.1 ∨ y.1 < y.2 by omega) with h3 | h3
      · have E := hid (show comW x y = ((0, 0), false) by
          unfold comW
          rw [show max x.1 y.1 = y.1 by omega, show min x.2 y.2 = y.2 by omega, if_pos (by omega)])
        generalize comW x y = R at *
        obtain rfl := E.out
        clear E
        go_enter Tryd.func21, Tryd.ntmps21
        go_wp2
        refine bodyPost_ret (v := .tuple #[.agg #[.int .i64 0, .int .i64 0], .bool false]) (by simp [results, Tryd.results21, go_sem]) rfl ⟨rfl, ?_⟩
        exact k4 _ _ _ _
      · have E := hid (show comW x y = ((y.1, y.2), true) by
          unfold comW
          rw [show max x.1 y.1 = y.1 by omega, show min x.2 y.2 = y.2 by omega, if_neg (by omega)])
        generalize comW x y = R at *
        obtain rfl := E.out
        clear E
        go_enter Tryd.func21, Tryd.ntmps21
        go_wp2
        refine bodyPost_ret (v := .tuple #[.agg #[.int .i64 y.1, .int .i64 y.2], .bool true]) (by simp [results, Tryd.results21, go_sem]) rfl ⟨rfl, ?_⟩
        exact k4 _ _ _ _
    · rcases (show x.2 ≤ y.1 ∨ y.1 < x.2 by omega) with h3 | h3
      · have E := hid (show comW x y = ((0, 0), false) by
          unfold comW
          rw [show max x.1 y.1 = y.1 by omega, show min x.2 y.2 = x.2 by omega, if_pos (by omega)])
        generalize comW x y = R at *
        obtain rfl := E.out
        clear E
        go_enter Tryd.func21, Tryd.ntmps21
        go_wp2
        refine bodyPost_ret (v := .tuple #[.agg #[.int .i64 0, .int .i64 0], .bool false]) (by simp [results, Tryd.results21, go_sem]) rfl ⟨rfl, ?_⟩
        exact k4 _ _ _ _
      · have E := hid (show comW x y = ((y.1, x.2), true) by
          unfold comW
          rw [show max x.1 y.1 = y.1 by omega, show min x.2 y.2 = x.2 by omega, if_neg (by omega)])
        generalize comW x y = R at *
        obtain rfl := E.out
        clear E
        go_enter Tryd.func21, Tryd.ntmps21
        go_wp2
        refine bodyPost_ret (v := .tuple #[.agg #[.int .i64 y.1, .int .i64 x.2], .bool true]) (by simp [results, Tryd.results21, go_sem]) rfl ⟨rfl, ?_⟩
        exact k4 _ _ _ _
  · rcases (show y.2 < x.2 ∨ x.2 ≤ y.2 by omega) with h2 | h2
    · rcases (show y.2 ≤ x.1 ∨ x.1 < y.2 by omega) with h3 | h3
      · have E := hid (show comW x y = ((0, 0), false) by
          unfold comW
          rw [show max x.1 y.1 = x.1 by omega, show min x.2 y.2 = y.2 by omega, if_pos (by omega)])
        generalize comW x y = R at *
        obtain rfl := E.out
        clear E
        go_enter Tryd.func21, Tryd.ntmps21
        go_wp2
        refine bodyPost_ret (v := .tuple #[.agg #[.int .i64 0, .int .i64 0], .bool false]) (by simp [results, Tryd.results21, go_sem]) rfl ⟨rfl, ?_⟩
        exact k4 _ _ _ _
      · have E := hid (show comW x y = ((x.1, y.2), true) by
          unfold comW
          rw [show max x.1 y.1 = x.1 by omega, show min x.2 y.2 = y.2 by omega, if_neg (by omega)])
        generalize comW x y = R at *
        obtain rfl := E.out
        clear E
        go_enter Tryd.func21, Tryd.ntmps21
        go_wp2
        refine bodyPost_ret (v := .tuple #[.agg #[.int .i64 x.1, .int .i64 y.2], .bool true]) (by simp [results, Tryd.results21, go_sem]) rfl ⟨rfl, ?_⟩
        exact k4 _ _ _ _
    · rcases (show x.2 ≤ x.1 ∨ x.1 < x.2 by omega) with h3 | h3
      · have E := hid (show comW x y = ((0, 0), false) by
          unfold comW
          rw [show max x.1 y.1 = x.1 by omega, show min x.2 y.2 = x.2 by omega, if_pos (by omega)])
        generalize comW x y = R at *
        obtain rfl := E.out
        clear E
        go_enter Tryd.func21, Tryd.ntmps21
        go_wp2
        refine bodyPost_ret (v := .tuple #[.agg #[.int .i64 0, .int .i64 0], .bool false]) (by simp [results, Tryd.results21, go_sem]) rfl ⟨rfl, ?_⟩
        exact k4 _ _ _ _
      · have E := hid (show comW x y = ((x.1, x.2), true) by
          unfold comW
          rw [show max x.1 y.1 = x.1 by omega, show min x.2 y.2 = x.2 by omega, if_neg (by omega)])
        generalize comW x y = R at *
        obtain rfl := E.out
        clear E
        go_enter Tryd.func21, Tryd.ntmps21
        go_wp2
        refine bodyPost_ret (v := .tuple #[.agg #[.int .i64 x.1, .int .i64 x.2], .bool true]) (by simp [results, Tryd.results21, go_sem]) rfl ⟨rfl, ?_⟩
        exact k4 _ _ _ _
end Go.Proofs.YtjjmcmchcmfgnaaDoor

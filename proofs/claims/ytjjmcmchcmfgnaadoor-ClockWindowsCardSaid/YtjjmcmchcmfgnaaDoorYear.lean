/- Contracts: years and months, of both sides. -/
import Derived.Test.YtjjmcmchcmfgnaaDoorLeaf
import Derived.Test.YtjjmcmchcmfgnaaDoorCal
namespace Go.Proofs.YtjjmcmchcmfgnaaDoor
open Go.RowKit

set_option maxHeartbeats 400000 in
theorem leap_any (y : Nat) (hy : y < 100000) (w : World) :
    Calls Tryd.prog 53 #[.int .i64 (y : Int)] w fun e w' => e = .returned (.bool (lp y)) ∧ w = w' := by
  go_enter Tryd.func53, Tryd.ntmps53
  go_wp2
  all_goals (go_ret; exact ⟨ret_bool (by rw [Bool.eq_iff_iff, lp_iff]; simp only [beq_iff_eq, true_iff]; omega), rfl⟩)
set_option maxHeartbeats 400000 in
theorem rleap_any (y : Nat) (hy : y < 100000) (w : World) :
    Calls Tryd.prog 54 #[.int .i64 (y : Int)] w fun e w' => e = .returned (.bool (lp y)) ∧ w = w' := by
  go_enter Tryd.func54, Tryd.ntmps54
  go_wp2
  all_goals (go_ret; exact ⟨ret_bool (by rw [Bool.eq_iff_iff, lp_iff]; simp only [beq_iff_eq, true_iff]; omega), rfl⟩)
set_option maxHeartbeats 400000 in
theorem yearDays_any (y : Nat) (hy : y < 100000) (w : World) :
    Calls Tryd.prog 45 #[.int .i64 (y : Int)] w fun e w' => e = .returned (.int .i64 (yd y : Int)) ∧ w = w' := by
  have E := hid (show yd y = if lp y = true then 366 else 365 from rfl)
  cases h : lp y
  all_goals (
    rw [h] at E
    go_enter Tryd.func45, Tryd.ntmps45
    go_wp2_with (go_at_call 53; refine (leap_any _ hy _).mono ?_; rintro e w' ⟨rfl, rfl⟩)
    go_ret
    exact ⟨ret_int (by rw [E.out]; rfl), rfl⟩)
set_option maxHeartbeats 400000 in
theorem ryear_any (y : Nat) (hy : y < 100000) (w : World) :
    Calls Tryd.prog 44 #[.int .i64 (y : Int)] w fun e w' => e = .returned (.int .i64 (yd y : Int)) ∧ w = w' := by
  have E := hid (show yd y = if lp y = true then 366 else 365 from rfl)
  cases h : lp y
  all_goals (
    rw [h] at E
    go_enter Tryd.func44, Tryd.ntmps44
    go_wp2_with (go_at_call 54; refine (rleap_any _ hy _).mono ?_; rintro e w' ⟨rfl, rfl⟩)
    go_ret
    exact ⟨ret_int (by rw [E.out]; rfl), rfl⟩)
set_option maxHeartbeats 1000000 in
theorem month_any (y m : Nat) (hy : y < 100000) (h1 : 1 ≤ m) (h2 : m ≤ 12) (w : World) :
    Calls Tryd.prog 40 #[.int .i64 (y : Int), .int .i64 (m : Int)] w fun e w' => e = .returned (.int .i64 (md y m : Int)) ∧ Kept [] w w' := by
  obtain ⟨D, E⟩ : ∃ D, Hid (md y m = D) := ⟨_, hid rfl⟩
  rw [E.out]
  obtain rfl | hm : m = 2 ∨ m ≠ 2 := by omega
  · cases h : lp y
    · obtain rfl : D = 28 := by rw [← E.out]; simp [md, h]
      clear E
      go_enter Tryd.func40, Tryd.ntmps40
      go_wp2_with (go_at_call 53; refine (leap_any _ hy _).mono ?_; rintro e w' ⟨rfl, rfl⟩)
      go_ret
      exact ⟨rfl, (Kept.refl _ _).alloc _⟩
    · obtain rfl : D = 29 := by rw [← E.out]; simp [md, h]
      clear E
      go_enter Tryd.func40, Tryd.ntmps40
      go_wp2_with (go_at_call 53; refine (leap_any _ hy _).mono ?_; rintro e w' ⟨rfl, rfl⟩)
      go_ret
      exact ⟨rfl, (Kept.refl _ _).alloc _⟩
  · obtain rfl | rfl | rfl | rfl | rfl | rfl | rfl | rfl | rfl | rfl | rfl : m = 1 ∨ m = 3 ∨ m = 4 ∨ m = 5 ∨ m = 6 ∨ m = 7 ∨ m = 8 ∨ m = 9 ∨ m = 10 ∨ m = 11 ∨ m = 12 := by omega
    · obtain rfl : D = 31 := by rw [← E.out]; simp [md]
      clear E
      go_enter Tryd.func40, Tryd.ntmps40
      go_wp2_with fail
      go_ret
      exact ⟨rfl, (Kept.refl _ _).alloc _⟩
    · obtain rfl : D = 31 := by rw [← E.out]; simp [md]
      clear E
      go_enter Tryd.func40, Tryd.ntmps40
      go_wp2_with fail
      go_ret
      exact ⟨rfl, (Kept.refl _ _).alloc _⟩
    · obtain rfl : D = 30 := by rw [← E.out]; simp [md]
      clear E
      go_enter Tryd.func40, Tryd.ntmps40
      go_wp2_with fail
      go_ret
      exact ⟨rfl, (Kept.refl _ _).alloc _⟩
    · obtain rfl : D = 31 := by rw [← E.out]; simp [md]
      clear E
      go_enter Tryd.func40, Tryd.ntmps40
      go_wp2_with fail
      go_ret
      exact ⟨rfl, (Kept.refl _ _).alloc _⟩
    · obtain rfl : D = 30 := by rw [← E.out]; simp [md]
      clear E
      go_enter Tryd.func40, Tryd.ntmps40
      go_wp2_with fail
      go_ret
      exact ⟨rfl, (Kept.refl _ _).alloc _⟩
    · obtain rfl : D = 31 := by rw [← E.out]; simp [md]
      clear E
      go_enter Tryd.func40, Tryd.ntmps40
      go_wp2_with fail
      go_ret
      exact ⟨rfl, (Kept.refl _ _).alloc _⟩
    · obtain rfl : D = 31 := by rw [← E.out]; simp [md]
      clear E
      go_enter Tryd.func40, Tryd.ntmps40
      go_wp2_with fail
      go_ret
      exact ⟨rfl, (Kept.refl _ _).alloc _⟩
    · obtain rfl : D = 30 := by rw [← E.out]; simp [md]
      clear E
      go_enter Tryd.func40, Tryd.ntmps40
      go_wp2_with fail
      go_ret
      exact ⟨rfl, (Kept.refl _ _).alloc _⟩
    · obtain rfl : D = 31 := by rw [← E.out]; simp [md]
      clear E
      go_enter Tryd.func40, Tryd.ntmps40
      go_wp2_with fail
      go_ret
      exact ⟨rfl, (Kept.refl _ _).alloc _⟩
    · obtain rfl : D = 30 := by rw [← E.out]; simp [md]
      clear E
      go_enter Tryd.func40, Tryd.ntmps40
      go_wp2_with fail
      go_ret
      exact ⟨rfl, (Kept.refl _ _).alloc _⟩
    · obtain rfl : D = 31 := by rw [← E.out]; simp [md]
      clear E
      go_enter Tryd.func40, Tryd.ntmps40
      go_wp2_with fail
      go_ret
      exact ⟨rfl, (Kept.refl _ _).alloc _⟩
set_option maxHeartbeats 1000000 in
theorem rmonth_any (y m : Nat) (hy : y < 100000) (h1 : 1 ≤ m) (h2 : m ≤ 12) (w : World) :
    Calls Tryd.prog 43 #[.int .i64 (y : Int), .int .i64 (m : Int)] w fun e w' => e = .returned (.int .i64 (md y m : Int)) ∧ Kept [] w w' := by
  obtain ⟨D, E⟩ : ∃ D, Hid (md y m = D) := ⟨_, hid rfl⟩
  rw [E.out]
  obtain rfl | hm : m = 2 ∨ m ≠ 2 := by omega
  · cases h : lp y
    · obtain rfl : D = 28 := by rw [← E.out]; simp [md, h]
      clear E
      go_enter Tryd.func43, Tryd.ntmps43
      go_wp2_with (go_at_call 54; refine (rleap_any _ hy _).mono ?_; rintro e w' ⟨rfl, rfl⟩)
      go_ret
      exact ⟨rfl, (Kept.refl _ _).alloc _⟩
    · obtain rfl : D = 29 := by rw [← E.out]; simp [md, h]
      clear E
      go_enter Tryd.func43, Tryd.ntmps43
      go_wp2_with (go_at_call 54; refine (rleap_any _ hy _).mono ?_; rintro e w' ⟨rfl, rfl⟩)
      go_ret
      exact ⟨rfl, Kept.refl _ _⟩
  · obtain rfl | rfl | rfl | rfl | rfl | rfl | rfl | rfl | rfl | rfl | rfl : m = 1 ∨ m = 3 ∨ m = 4 ∨ m = 5 ∨ m = 6 ∨ m = 7 ∨ m = 8 ∨ m = 9 ∨ m = 10 ∨ m = 11 ∨ m = 12 := by omega
    · obtain rfl : D = 31 := by rw [← E.out]; simp [md]
      clear E
      go_enter Tryd.func43, Tryd.ntmps43
      go_wp2_with fail
      go_ret
      exact ⟨rfl, (Kept.refl _ _).alloc _⟩
    · obtain rfl : D = 31 := by rw [← E.out]; simp [md]
      clear E
      go_enter Tryd.func43, Tryd.ntmps43
      go_wp2_with fail
      go_ret
      exact ⟨rfl, (Kept.refl _ _).alloc _⟩
    · obtain rfl : D = 30 := by rw [← E.out]; simp [md]
      clear E
      go_enter Tryd.func43, Tryd.ntmps43
      go_wp2_with fail
      go_ret
      exact ⟨rfl, (Kept.refl _ _).alloc _⟩
    · obtain rfl : D = 31 := by rw [← E.out]; simp [md]
      clear E
      go_enter Tryd.func43, Tryd.ntmps43
      go_wp2_with fail
      go_ret
      exact ⟨rfl, (Kept.refl _ _).alloc _⟩
    · obtain rfl : D = 30 := by rw [← E.out]; simp [md]
      clear E
      go_enter Tryd.func43, Tryd.ntmps43
      go_wp2_with fail
      go_ret
      exact ⟨rfl, (Kept.refl _ _).alloc _⟩
    · obtain rfl : D = 31 := by rw [← E.out]; simp [md]
      clear E
      go_enter Tryd.func43, Tryd.ntmps43
      go_wp2_with fail
      go_ret
      exact ⟨rfl, (Kept.refl _ _).alloc _⟩
    · obtain rfl : D = 31 := by rw [← E.out]; simp [md]
      clear E
      go_enter Tryd.func43, Tryd.ntmps43
      go_wp2_with fail
      go_ret
      exact ⟨rfl, (Kept.refl _ _).alloc _⟩
    · obtain rfl : D = 30 := by rw [← E.out]; simp [md]
      clear E
      go_enter Tryd.func43, Tryd.ntmps43
      go_wp2_with fail
      go_ret
      exact ⟨rfl, (Kept.refl _ _).alloc _⟩
    · obtain rfl : D = 31 := by rw [← E.out]; simp [md]
      clear E
      go_enter Tryd.func43, Tryd.ntmps43
      go_wp2_with fail
      go_ret
      exact ⟨rfl, (Kept.refl _ _).alloc _⟩
    · obtain rfl : D = 30 := by rw [← E.out]; simp [md]
      clear E
      go_enter Tryd.func43, Tryd.ntmps43
      go_wp2_with fail
      go_ret
      exact ⟨rfl, (Kept.refl _ _).alloc _⟩
    · obtain rfl : D = 31 := by rw [← E.out]; simp [md]
      clear E
      go_enter Tryd.func43, Tryd.ntmps43
      go_wp2_with fail
      go_ret
      exact ⟨rfl, (Kept.refl _ _).alloc _⟩
end Go.Proofs.YtjjmcmchcmfgnaaDoor

/- ClockAdds, walked: it returns true. -/
import Derived.Test.YtjjmcmchcmfgnabDoorAlive
namespace Go.Proofs.YtjjmcmchcmfgnabDoor
open Go.RowKit

theorem add_comm2 (t d : Int) : add d t = add t d := by unfold add; rw [Int.add_comm]
set_option maxHeartbeats 1000000 in
theorem adds_walk (t : Int) (_ : (Lit.int .i64 t).wf = true) (d : Int) (_ : (Lit.int .i64 d).wf = true) {w : World} (ht : Tab w) :
    Calls Tryd.prog 3 #[.int .i64 t, .int .i64 d] w fun e w' => e = .returned (.bool true) ∧ Below w.heap.size w w' := by
  have HA := hid (alive_any ht)
  clear ht
  obtain ⟨x, hx⟩ : ∃ x : Int, Hid (max 0 (min t 1099511627776) = x) := ⟨_, hid rfl⟩
  obtain ⟨y, hy⟩ : ∃ y : Int, Hid (max 0 (min d 1099511627776) = y) := ⟨_, hid rfl⟩
  obtain ⟨n, hn⟩ : ∃ n, Hid (add t d = n) := ⟨_, hid rfl⟩
  have ex := hx.out
  have ey := hy.out
  have h1 := lim_bd t
  have h2 := lim_bd d
  have e1 : lim t = x := by rw [← ex]; unfold lim; omega
  have e2 : lim d = y := by rw [← ey]; unfold lim; omega
  have en : n = lim (x + y) := by rw [← hn.out]; unfold add; rw [e1, e2]
  obtain ⟨k, hk⟩ : ∃ k, Hid (sub n t = k) := ⟨_, hid rfl⟩
  have ek : k = lim n - x := by rw [← hk.out]; unfold sub; rw [e1]
  have hnn : lim n = n := by rw [en, lim_lim]
  have hv := hid (show valid n = true by unfold valid; rw [hnn]; simp)
  have c1 : x ≤ n := by rw [en]; unfold lim; omega
  have c2 : k ≤ y := by rw [ek, hnn, en]; unfold lim; omega
  have c3 : ¬ 1099511627776 < x + y → k = y := fun h => by rw [ek, hnn, en]; unfold lim; omega
  have hA1 := hid (fun w => add_any t d w)
  have hA2 := hid (fun w => add_any d t w)
  rw [add_comm2] at hA2
  rw [hn.out] at hA1 hA2
  have hS := hid (fun w => sub_any n t w)
  rw [hk.out] at hS
  have hV := hid (fun w => valid_any n w)
  rw [hv.out] at hV
  have bx : 0 ≤ x ∧ x ≤ 1099511627776 := by omega
  have bY : 0 ≤ y ∧ y ≤ 1099511627776 := by omega
  clear en ek hnn e1 e2 h1 h2 hn hk hv hx hy
  have z0 : True := trivial
  rcases (show 1099511627776 < x + y ∨ x + y ≤ 1099511627776 by omega) with h | h
  · clear c3
    go_enter Tryd.func3, Tryd.ntmps3
    go_wp2_with (first
      | (go_at_call 4; have _t := z1; clear _t z1; refine (hA2.out _).mono ?_; rintro e w' ⟨rfl, rfl⟩)
      | (go_at_call 4; have _t := z0; clear _t z0; refine (hA1.out _).mono ?_; rintro e w' ⟨rfl, rfl⟩; have z1 : True := trivial)
      | (go_at_call 5; refine (hS.out _).mono ?_; rintro e w' ⟨rfl, rfl⟩)
      | (go_at_call 6; refine (hV.out _).mono ?_; rintro e w' ⟨rfl, rfl⟩)
      | (go_at_call 7; refine HA.out.mono ?_; rintro e w3 ⟨rfl, h3⟩))
    go_ret
    exact ⟨rfl, h3.toBelow (by simp)⟩
  · have c4 := c3 (by omega)
    clear c3
    subst c4
    go_enter Tryd.func3, Tryd.ntmps3
    go_wp2_with (first
      | (go_at_call 4; have _t := z1; clear _t z1; refine (hA2.out _).mono ?_; rintro e w' ⟨rfl, rfl⟩)
      | (go_at_call 4; have _t := z0; clear _t z0; refine (hA1.out _).mono ?_; rintro e w' ⟨rfl, rfl⟩; have z1 : True := trivial)
      | (go_at_call 5; refine (hS.out _).mono ?_; rintro e w' ⟨rfl, rfl⟩)
      | (go_at_call 6; refine (hV.out _).mono ?_; rintro e w' ⟨rfl, rfl⟩)
      | (go_at_call 7; refine HA.out.mono ?_; rintro e w3 ⟨rfl, h3⟩))
    go_ret
    exact ⟨rfl, h3.toBelow (by simp)⟩
end Go.Proofs.YtjjmcmchcmfgnabDoor

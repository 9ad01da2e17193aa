/- alive, few, play. -/
import Derived.Test.YtiaklgmmiadfoaaRef
namespace Go.Proofs.Ytiaklgmmiadfoaa
open Go.RowKit Go.Maps Go.WideMaps

theorem use_to {w : World} {rb mb : Nat} {most : Int} {L L' : List Ent} (h : RegAt w rb mb most L) {s : ByteArray} (hs : s.size ≤ maxLen) {u n c : Int} (e : useL L most s.data.toList (lim u) (lim n) = (c, L')) :
    Calls Try.prog 13 #[.pointer (some ⟨rb, 0, none⟩), .string s, .int .i64 u, .int .i64 n] w fun e w' => e = .returned (.int .i64 c) ∧ RegAt w' rb mb most L' ∧ Kept [mb] w w' := by
  have h1 := use_reg h s hs u n
  rw [e] at h1
  exact h1
theorem seen_to {w : World} {rb mb : Nat} {most : Int} {L : List Ent} (h : RegAt w rb mb most L) {s : ByteArray} (hs : s.size ≤ maxLen) {n : Int} {b : Bool} (e : seenB L s.data.toList n = b) :
    Calls Try.prog 15 #[.pointer (some ⟨rb, 0, none⟩), .string s, .int .i64 n] w fun e w' => e = .returned (.bool b) ∧ RegAt w' rb mb most L ∧ Kept [mb] w w' := by
  have h1 := seen_reg h s hs n
  rw [e] at h1
  refine h1.mono ?_
  rintro e w' ⟨rfl, m, rfl⟩
  exact ⟨rfl, h.kept ((Kept.refl [] w).drewN m) (by simp) (by simp), (Kept.refl _ w).drewN m⟩
theorem purge_to {w : World} {rb mb : Nat} {most : Int} {L L' : List Ent} (h : RegAt w rb mb most L) {n c : Int} (e : live L (lim n) = L') (ec : (L.length : Int) - L'.length = c) :
    Calls Try.prog 17 #[.pointer (some ⟨rb, 0, none⟩), .int .i64 n] w fun e w' => e = .returned (.int .i64 c) ∧ RegAt w' rb mb most L' ∧ Kept [mb] w w' := by
  have h1 := purge_reg h n
  rw [e, ec] at h1
  exact h1
theorem len_to {w : World} {rb mb : Nat} {most : Int} {L : List Ent} (h : RegAt w rb mb most L) {c : Int} (ec : (L.length : Int) = c) :
    Calls Try.prog 19 #[.pointer (some ⟨rb, 0, none⟩)] w fun e w' => e = .returned (.int .i64 c) ∧ w = w' := by
  have h1 := len_reg h
  rw [ec] at h1
  exact h1

set_option maxHeartbeats 1000000 in
set_option maxRecDepth 100000 in
theorem alive_any (w : World) : Calls Try.prog 10 #[] w fun e w' => e = .returned (.bool true) ∧ Kept [] w w' := by
  go_enter Try.func10, Try.ntmps10
  go_wp2_with fail
  refine (new_yes 1 (by decide) (by decide) _).mono ?_
  rintro e w1 ⟨rfl, hr1, hk1, _⟩
  go_wp2_with fail
  refine (new_no 0 (by decide) _).mono ?_
  rintro e w' ⟨rfl, rfl⟩
  go_wp2_with fail
  refine (use_to (c := 0) (L' := [([97], 10)]) hr1 (by decide) (by rfl)).mono ?_
  rintro e w2 ⟨rfl, hr2, hk2⟩
  go_wp2_with fail
  refine (use_to (c := 18) (L' := [([97], 10)]) hr2 (by decide) (by rfl)).mono ?_
  rintro e w3 ⟨rfl, hr3, hk3⟩
  go_wp2_with fail
  refine (use_to (c := 3) (L' := [([97], 10)]) hr3 (by decide) (by rfl)).mono ?_
  rintro e w4 ⟨rfl, hr4, hk4⟩
  go_wp2_with fail
  refine (use_to (c := 0) (L' := [([98], 20)]) hr4 (by decide) (by rfl)).mono ?_
  rintro e w5 ⟨rfl, hr5, hk5⟩
  go_wp2_with fail
  refine (use_to (c := 13) (L' := [([98], 20)]) hr5 (by decide) (by rfl)).mono ?_
  rintro e w6 ⟨rfl, hr6, hk6⟩
  go_wp2_with fail
  refine (use_to (c := 5) (L' := [([98], 20)]) hr6 (by decide) (by rfl)).mono ?_
  rintro e w7 ⟨rfl, hr7, hk7⟩
  go_wp2_with fail
  refine (len_to (c := 1) hr7 (by rfl)).mono ?_
  rintro e w' ⟨rfl, rfl⟩
  go_wp2_with fail
  refine (seen_to (b := true) hr7 (by decide) (by rfl)).mono ?_
  rintro e w8 ⟨rfl, hr8, hk8⟩
  go_wp2_with fail
  refine (seen_to (b := false) hr8 (by decide) (by rfl)).mono ?_
  rintro e w9 ⟨rfl, hr9, hk9⟩
  go_wp2_with fail
  refine (seen_to (b := false) hr9 (by decide) (by rfl)).mono ?_
  rintro e wa ⟨rfl, hra, hka⟩
  go_wp2_with fail
  refine (purge_to (c := 1) (L' := []) hra (by rfl) (by rfl)).mono ?_
  rintro e wb ⟨rfl, hrb, hkb⟩
  go_wp2_with fail
  refine (len_to (c := 0) hrb (by rfl)).mono ?_
  rintro e w' ⟨rfl, rfl⟩
  go_wp2_with fail
  go_ret
  have hS : ∀ i ∈ [w.heap.size], i ∈ ([] : List Nat) ∨ w.heap.size ≤ i := by simp
  exact ⟨rfl, ((((((((((hk1.trans hk2 hS).trans hk3 hS).trans hk4 hS).trans hk5 hS).trans hk6 hS).trans hk7 hS).trans hk8 hS).trans hk9 hS).trans hka hS).trans hkb hS)⟩

end Go.Proofs.Ytiaklgmmiadfoaa

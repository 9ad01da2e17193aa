/- Done, Fail, Bound of the program. -/
import Derived.Test.YtdikijbkfhimoaaEnd
namespace Go.Proofs.Ytdikijbkfhimoaa
open Go.RowKit Go.Maps

theorem Left.before {w w1 w' : World} {lb mb most delay : Nat} {X : SBs} {U' : Log} (k : Kept [] w w1) (h : Left w1 w' lb mb most delay X U') : Left w w' lb mb most delay X U' := by
  obtain ⟨X', h1, e, k1, hd⟩ := h
  exact ⟨X', h1, e, (k.mono (T := ldom lb mb X) (by simp)).step k1 (fun i hi => hi), fun i hi => (hd i hi).elim .inl (fun e => .inr (Nat.le_trans k.size e))⟩
set_option maxHeartbeats 1000000 in
theorem done_any {w : World} {lb mb most delay : Nat} {X : SBs} (h : LogAt w lb mb most delay X) (s c : ByteArray) (hs : s.size ≤ maxLen) (hc : c.size ≤ maxLen) (now : Int) :
    Calls Try.prog 18 #[.pointer (some ⟨lb, 0, none⟩), .string s, .string c, .int .i64 now] w fun e w' => e = .returned (.int .i64 (endE (absL X) s.data.toList c.data.toList)) ∧ Left w w' lb mb most delay X (endU doneN (absL X) s.data.toList c.data.toList) := by
  have HE := hid (end_done h s c hs hc)
  clear h
  go_enter Try.func18, Try.ntmps18
  go_wp2_with (go_at_call 46; refine HE.out.mono ?_; rintro e w' ⟨rfl, hL⟩; have HL := hid hL; clear hL)
  go_ret
  exact ⟨rfl, HL.out⟩
set_option maxHeartbeats 1000000 in
theorem fail_any {w : World} {lb mb most delay : Nat} {X : SBs} (h : LogAt w lb mb most delay X) (s c : ByteArray) (hs : s.size ≤ maxLen) (hc : c.size ≤ maxLen) (now : Int) :
    Calls Try.prog 20 #[.pointer (some ⟨lb, 0, none⟩), .string s, .string c, .int .i64 now] w fun e w' => e = .returned (.int .i64 (endE (absL X) s.data.toList c.data.toList)) ∧ Left w w' lb mb most delay X (endU (failN most) (absL X) s.data.toList c.data.toList) := by
  have HE := hid (end_fail (h.keptN ((Kept.refl [] w).alloc (.cells #[.pointer (some ⟨lb, 0, none⟩)] 25))) s c hs hc (cb := w.heap.size) (by rw [cell_at (heap_alloc_new w (.cells #[.pointer (some ⟨lb, 0, none⟩)] 25))]; rfl))
  clear h
  go_enter Try.func20, Try.ntmps20
  go_wp2_with (go_at_call 46; refine HE.out.mono ?_; rintro e w' ⟨rfl, hL⟩; have HL := hid hL; clear hL)
  go_ret
  exact ⟨rfl, HL.out.before ((Kept.refl [] w).alloc _)⟩
set_option maxHeartbeats 1000000 in
theorem bound_any {w : World} {lb mb most delay : Nat} {X : SBs} (h : LogAt w lb mb most delay X) :
    Calls Try.prog 27 #[.pointer (some ⟨lb, 0, none⟩)] w fun e w' => e = .returned (.int .i64 (afterN delay (most - 1) : Nat)) ∧ DrewN w w' := by
  have c0 := h.c0
  have c2 := h.c2
  have m1 := h.good.rm.1
  have m2 := h.good.rm.2
  have HA := hid (after_any (w := w) h.c1 h.good.rd.2 (show most - 1 ≤ 8 by omega))
  rw [show ((most - 1 : Nat) : Int) = (most : Int) - 1 by omega] at HA
  have i1 : (1 : Int) ≤ most := by omega
  have i2 : (most : Int) ≤ 8 := by omega
  generalize afterN delay (most - 1) = v at *
  clear h
  go_enter Try.func27, Try.ntmps27
  go_wp2_with (first
    | (go_at_call 34; refine (ready_any c2).mono ?_; rintro e w' ⟨rfl, rfl⟩)
    | (go_at_call 41; refine HA.out.mono ?_; rintro e w' ⟨rfl, h4⟩))
  go_ret
  exact ⟨rfl, h4⟩
end Go.Proofs.Ytdikijbkfhimoaa

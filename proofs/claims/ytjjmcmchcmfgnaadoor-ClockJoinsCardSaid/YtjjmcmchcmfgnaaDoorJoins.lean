/- ClockJoins, walked: it returns true. -/
import Derived.Test.YtjjmcmchcmfgnaaDoorAlive
import Derived.Test.YtjjmcmchcmfgnaaDoorOpen
import Derived.Test.YtjjmcmchcmfgnaaDoorRunion
namespace Go.Proofs.YtjjmcmchcmfgnaaDoor
open Go.RowKit

set_option maxHeartbeats 4000000 in
theorem joins_walk (x : Win) (_ : True) (y : Win) (_ : True) {w : World} {a : Option Addr} {cap : Nat} {l : List Win} (h : WinsAt w a l) (ht : Tab w) :
    Calls Tryd.prog 5 #[winV x, winV y, .slice a l.length cap] w fun e w' => e = .returned (.bool true) ∧ Below w.heap.size w w' := by
  have HA := hid (fun (W : World) (k : Kept [] w W) => alive_any (ht.kept k))
  clear ht
  have hw : Kept [] w w := Kept.refl _ _
  unfold winV
  by_cases hl : l.length ≤ 12
  · have hli : (l.length : Int) ≤ 12 := by omega
    have HC := hid (fun W => common_any x y W)
    have HD := hid (fun W => rcommon_any x y W)
    have HU := hid (fun (W : World) (k : Kept [] w W) => union_any (cap := cap) (SeqAt.kept h CEnc.lasts k (by simp)) (by omega))
    have HV := hid (fun (W : World) (k : Kept [] w W) => runion_any (cap := cap) (SeqAt.kept h CEnc.lasts k (by simp)) (by omega))
    generalize comW x y = R at *
    obtain ⟨⟨r1, r2⟩, rb⟩ := R
    unfold winV at HC HD
    go_enter Tryd.func5, Tryd.ntmps5
    go_wp2_with fail
    refine (HC.out _).mono ?_
    rintro _ w3 ⟨rfl, h3⟩
    have hbx := h3.at (heap_two w (.cells #[.int .i64 x.1, .int .i64 x.2] 27 (0, 0)) (.cells #[.int .i64 y.1, .int .i64 y.2] 27 (0, 0))).1 (by simp)
    have hby := h3.at (heap_two w (.cells #[.int .i64 x.1, .int .i64 x.2] 27 (0, 0)) (.cells #[.int .i64 y.1, .int .i64 y.2] 27 (0, 0))).2 (by simp)
    replace hw := ((hw.alloc (.cells #[.int .i64 x.1, .int .i64 x.2] 27 (0, 0))).alloc (.cells #[.int .i64 y.1, .int .i64 y.2] 27 (0, 0))).step h3 (by simp)
    have k3 := (Kept.refl [] w3).alloc (.cells #[.int .i64 r1, .int .i64 r2] 27 (0, 0))
    have hx2 := k3.at hbx (by simp)
    have hy2 := k3.at hby (by simp)
    have x0 := cell_at hx2 0
    have x1 := cell_at hx2 1
    have y0 := cell_at hy2 0
    have y1 := cell_at hy2 1
    simp only [List.getElem?_toArray, List.getElem?_cons_zero, List.getElem?_cons_succ] at x0 x1 y0 y1
    clear h3 hbx hby hx2 hy2
    go_wp2_with fail
    refine (HD.out _).mono ?_
    rintro _ w4 ⟨rfl, h4⟩
    have hbc := h4.at (heap_alloc_new w3 (.cells #[.int .i64 r1, .int .i64 r2] 27 (0, 0))) (by simp)
    have hc2 := ((Kept.refl [] w4).alloc (.cells #[.int .i64 r1, .int .i64 r2] 27 (0, 0))).at hbc (by simp)
    have c0 := cell_at hc2 0
    have c1 := cell_at hc2 1
    simp only [List.getElem?_toArray, List.getElem?_cons_zero, List.getElem?_cons_succ] at c0 c1
    replace hw := (hw.alloc (.cells #[.int .i64 r1, .int .i64 r2] 27 (0, 0))).step h4 (by simp)
    replace hw := hw.alloc (.cells #[.int .i64 r1, .int .i64 r2] 27 (0, 0))
    clear k3 x0 x1 y0 y1 h4 hbc hc2
    go_wp2_with (first
      | (go_at_call 23; refine (HU.out _ hw).mono ?_; rintro _ w5 ⟨a5, c5, U, rfl, o5, L5⟩; have L5 := hid L5; replace hw := hw.step o5.kept (by simp))
      | (go_at_call 24; refine (HV.out _ hw).mono ?_; rintro _ w6 ⟨a6, c6, V, rfl, o6, L6⟩; obtain rfl : U = V := L5.out.uniq L6; clear L6; replace hw := hw.step o6.kept (by simp))
      | (go_at_call 22; refine (same_any (SeqAt.kept (o5.seq encWOk) CEnc.lasts o6.kept (by simp)) (o6.seq encWOk)).mono ?_; rintro _ w7 ⟨rfl, h7⟩; replace hw := hw.step h7 (by simp); clear h7)
      | (go_at_call 15; refine (HA.out _ hw).mono ?_; rintro _ w8 ⟨rfl, h8⟩; replace hw := hw.step h8 (by simp); clear h8))
    go_ret
    exact ⟨rfl, hw.toBelow (by simp)⟩
  · have hli : (12 : Int) < l.length := by omega
    go_enter Tryd.func5, Tryd.ntmps5
    go_wp2_with (go_at_call 15; refine (HA.out _ (by first | exact hw | exact ((hw.alloc _).alloc _))).mono ?_; rintro _ w3 ⟨rfl, h3⟩)
    go_ret
    exact ⟨rfl, (((hw.alloc _).alloc _).step h3 (by simp)).toBelow (by simp)⟩
end Go.Proofs.YtjjmcmchcmfgnaaDoor

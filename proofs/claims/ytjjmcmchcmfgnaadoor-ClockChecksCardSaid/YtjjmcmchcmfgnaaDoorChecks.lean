/- ClockChecks, walked: it returns true. -/
import Derived.Test.YtjjmcmchcmfgnaaDoorAlive
import Derived.Test.YtjjmcmchcmfgnaaDoorOpen
namespace Go.Proofs.YtjjmcmchcmfgnaaDoor
open Go.RowKit Go.ChangeShapes Go.WideShapes Go.ChangeAt

set_option maxHeartbeats 4000000 in
theorem checks_walk (x : Win) (_ : True) (t : Int) (_ : (Lit.int .i64 t).wf = true) (d : Int) (_ : (Lit.int .i64 d).wf = true) {w : World} (ht : Tab w) :
    Calls Tryd.prog 4 #[winV x, .int .i64 t, .int .i64 d] w fun e w' => e = .returned (.bool true) ∧ Below w.heap.size w w' := by
  have HA := hid (fun (W : World) (k : Kept [] w W) => alive_any (ht.kept k))
  clear ht
  have HI := hid (fun W => in_any x t W)
  have HJ := hid (fun W => rin_any x t W)
  have HK := hid (fun W => check_any x t d W)
  have HL := hid (fun W => rcheck_any x t d W)
  generalize inW x t = b at *
  generalize chk x t d = c at *
  unfold winV at *
  have hcell : Hid (∀ W, Kept [] (w.alloc (.cells #[.int .i64 x.1, .int .i64 x.2] 27 (0, 0))) W → W.cell? ⟨w.heap.size, 0, none⟩ = some (.int .i64 x.1) ∧ W.cell? ⟨w.heap.size, 1, none⟩ = some (.int .i64 x.2)) := hid (fun W k => by
    have hb := k.at (heap_alloc_new w (.cells #[.int .i64 x.1, .int .i64 x.2] 27 (0, 0))) (by simp)
    have c0 := cell_at hb 0
    have c1 := cell_at hb 1
    simp at c0 c1
    exact ⟨c0, c1⟩)
  have kk : Hid (Kept [] w (w.alloc (.cells #[.int .i64 x.1, .int .i64 x.2] 27 (0, 0)))) := hid ((Kept.refl [] w).alloc _)
  go_enter Tryd.func4, Tryd.ntmps4
  go_wp2_with fail
  go_region_held3 (fun w' => w'.cell? ⟨w.heap.size, 0, none⟩ = some (.int .i64 x.1) ∧ w'.cell? ⟨w.heap.size, 1, none⟩ = some (.int .i64 x.2))
    (first
      | exact hcell.out _ ((((((Kept.refl [] _).drew.step h3 (by simp)).step h4 (by simp)).step h5 (by simp)).step h6 (by simp)).step h7 (by simp))
      | exact hcell.out _ (((((Kept.refl [] _).drew.step h3 (by simp)).step h4 (by simp)).step h5 (by simp)).step h6 (by simp))
      | exact hcell.out _ ((((Kept.refl [] _).drew.step h3 (by simp)).step h4 (by simp)).step h5 (by simp))
      | exact hcell.out _ (((Kept.refl [] _).drew.step h3 (by simp)).step h4 (by simp))
      | exact hcell.out _ ((Kept.refl [] _).drew.step h3 (by simp))
      | exact hcell.out _ ((Kept.refl [] _).drew))
    (first
      | (go_at_call 16; refine (HI.out _).mono ?_; rintro e w3 ⟨rfl, h3⟩)
      | (go_at_call 17; refine (HJ.out _).mono ?_; rintro e w4 ⟨rfl, h4⟩)
      | (go_at_call 18; refine (HK.out _).mono ?_; rintro e w5 ⟨rfl, h5⟩)
      | (go_at_call 19; refine (HL.out _).mono ?_; rintro e w6 ⟨rfl, h6⟩)
      | (go_at_call 15; refine (HA.out _ (((((kk.out.drew.step h3 (by simp)).step h4 (by simp)).step h5 (by simp)).step h6 (by simp)))).mono ?_; rintro e w7 ⟨rfl, h7⟩))
  go_wp2_with fail
  go_ret
  exact ⟨rfl, (((((kk.out.drew.step h3 (by simp)).step h4 (by simp)).step h5 (by simp)).step h6 (by simp)).step h7 (by simp)).toBelow (by simp)⟩
end Go.Proofs.YtjjmcmchcmfgnaaDoor

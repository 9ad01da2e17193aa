/- ClockFormats, walked: it returns true. -/
import Derived.Test.YtjjmcmchcmfgnaaDoorAlive
import Derived.Test.YtjjmcmchcmfgnaaDoorRparseB
namespace Go.Proofs.YtjjmcmchcmfgnaaDoor
open Go.RowKit

set_option maxHeartbeats 4000000 in
theorem formats_walk (t : Int) (_ : (Lit.int .i64 t).wf = true) (s : ByteArray) (_ : s.size ≤ maxLen) {w : World} (ht : Tab w) :
    Calls Tryd.prog 6 #[.int .i64 t, .string s] w fun e w' => e = .returned (.bool true) ∧ Below w.heap.size w w' := by
  have HA := hid (fun (W : World) (k : Kept [] w W) => alive_any (ht.kept k))
  have HF := hid (fun (W : World) (k : Kept [] w W) => format_any t (ht.kept k))
  have HG := hid (fun (W : World) => rformat_any t (w := W))
  clear ht
  have hw : Kept [] w w := Kept.refl _ _
  by_cases hs : s.size ≤ 40
  · have HP := hid (parse_any s)
    have HR := hid (rparse_any s hs)
    have hsi : (s.size : Int) ≤ 40 := by omega
    go_enter Tryd.func6, Tryd.ntmps6
    go_wp2_with (first
      | (go_at_call 25; refine (HP.out _).mono ?_; rintro _ w3 ⟨n1, k1, hp1, rfl, h3⟩; replace hw := Kept.step hw h3 (by simp); clear h3; have hp1 := hid hp1)
      | (go_at_call 26; refine (HR.out _).mono ?_; rintro _ w3 ⟨n2, k2, hp2, rfl, h3⟩; replace hw := Kept.step hw h3 (by simp); clear h3; obtain ⟨rfl, rfl⟩ := hp1.out.uniq hp2)
      | (go_at_call 27; refine (HF.out _ hw).mono ?_; rintro _ w3 ⟨c1, ok1, at1, rfl, h3⟩; replace hw := Kept.step hw h3 (by simp); clear h3; have ok1 := hid ok1; have at1 := hid at1)
      | (go_at_call 28; refine (HG.out _).mono ?_; rintro _ w3 ⟨c2, ok2, at2, rfl, h3⟩; replace hw := Kept.step hw h3 (by simp); clear h3; obtain rfl : c1 = c2 := Cal.uniq ok1.out ok2 (by have := at1.out; omega); clear ok2 at2)
      | (go_at_call 15; refine (HA.out _ hw).mono ?_; rintro _ w3 ⟨rfl, h3⟩; replace hw := Kept.step hw h3 (by simp); clear h3))
    go_ret
    exact ⟨rfl, hw.toBelow (by simp)⟩
  · have hsi : (40 : Int) < s.size := by omega
    go_enter Tryd.func6, Tryd.ntmps6
    go_wp2_with (go_at_call 15; refine (HA.out _ hw).mono ?_; rintro _ w3 ⟨rfl, h3⟩; replace hw := Kept.step hw h3 (by simp); clear h3)
    go_ret
    exact ⟨rfl, hw.toBelow (by simp)⟩
end Go.Proofs.YtjjmcmchcmfgnaaDoor

/- Band, of both; signal, bit; Same. -/
import Derived.Test.YtbcbffmbpoffpaaNum3
namespace Go.Proofs.Ytbcbffmbpoffpaa
open Go.RowKit Go.Lib

def bandS (n : Int) : Str := if n < 30 then [108, 111, 119] else if n < 70 then [109, 101, 100, 105, 117, 109] else [104, 105, 103, 104]
set_option maxHeartbeats 400000 in
theorem rband_any (n : Int) (w : World) :
    Calls Try.prog 14 #[.int .i64 n] w fun e w' => e = .returned (.string ⟨(bandS n).toArray⟩) ∧ w = w' := by
  by_cases h1 : n < 30
  · have E := hid (show bandS n = [108, 111, 119] by simp [bandS, h1])
    go_enter Try.func14, Try.ntmps14
    go_wp2
    go_ret
    exact ⟨by rw [E.out]; rfl, rfl⟩
  · by_cases h2 : n < 70
    · have E := hid (show bandS n = [109, 101, 100, 105, 117, 109] by simp [bandS, h1, h2])
      go_enter Try.func14, Try.ntmps14
      go_wp2
      go_ret
      exact ⟨by rw [E.out]; rfl, rfl⟩
    · have E := hid (show bandS n = [104, 105, 103, 104] by simp [bandS, h1, h2])
      go_enter Try.func14, Try.ntmps14
      go_wp2
      go_ret
      exact ⟨by rw [E.out]; rfl, rfl⟩
set_option maxHeartbeats 1000000 in
set_option maxRecDepth 100000 in
theorem band_any (n : Int) (w : World) :
    Calls Try.prog 13 #[.int .i64 n] w fun e w' => e = .returned (.string ⟨(bandS n).toArray⟩) ∧ Kept [] w w' := by
  have i0 : ∀ w, (Instr.index 60 (.agg #[.int .i64 30, .string ⟨#[108, 111, 119]⟩, .int .i64 70, .string ⟨#[109, 101, 100, 105, 117, 109]⟩]) (.int .i64 0)).run Try.prog w = .ok (.agg #[.int .i64 30, .string ⟨#[108, 111, 119]⟩]) w := fun _ => by kernel_rfl
  have i1 : ∀ w, (Instr.index 60 (.agg #[.int .i64 30, .string ⟨#[108, 111, 119]⟩, .int .i64 70, .string ⟨#[109, 101, 100, 105, 117, 109]⟩]) (.int .i64 1)).run Try.prog w = .ok (.agg #[.int .i64 70, .string ⟨#[109, 101, 100, 105, 117, 109]⟩]) w := fun _ => by kernel_rfl
  go_enter Try.func13, Try.ntmps13
  go_wp2_with fail
  go_loopw [10] (fun iv wr => ∃ k : Nat, k ≤ 2 ∧ iv = .int .i64 k ∧ Kept [] w wr ∧ (1 ≤ k → ¬ n < 30) ∧ (2 ≤ k → ¬ n < 70)) (fun iv _ => 2 - (intOf iv).toNat)
  case atStart => exact ⟨0, by omega, rfl, (Kept.refl [] w).alloc _, by omega, by omega⟩
  case round =>
    obtain ⟨k, hk, rfl, hkw, g1, g2⟩ := hrel
    rcases (by omega : k = 0 ∨ k = 1 ∨ k = 2) with rfl | rfl | rfl
    · by_cases h1 : n < 30
      · have E := hid (show bandS n = [108, 111, 119] by simp [bandS, h1])
        clear g1 g2
        go_wp2_with fail
        go_ret
        exact ⟨by rw [E.out]; rfl, hkw.alloc _⟩
      · clear g1 g2
        go_wp2_with fail
        go_roundw
        case rel => exact ⟨1, by omega, rfl, hkw.alloc _, fun _ => h1, by omega⟩
        case measure => simp [intOf]
    · by_cases h2 : n < 70
      · have E := hid (show bandS n = [109, 101, 100, 105, 117, 109] by simp [bandS, g1 (by omega), h2])
        clear g1 g2
        go_wp2_with fail
        go_ret
        exact ⟨by rw [E.out]; rfl, hkw.alloc _⟩
      · have h1 := g1 (by omega)
        clear g1 g2
        go_wp2_with fail
        go_roundw
        case rel => exact ⟨2, by omega, rfl, hkw.alloc _, fun _ => h1, fun _ => h2⟩
        case measure => simp [intOf]
    · have E := hid (show bandS n = [104, 105, 103, 104] by simp [bandS, g1 (by omega), g2 (by omega)])
      clear g1 g2
      go_wp2_with fail
      go_ret
      exact ⟨by rw [E.out]; rfl, hkw⟩
end Go.Proofs.Ytbcbffmbpoffpaa

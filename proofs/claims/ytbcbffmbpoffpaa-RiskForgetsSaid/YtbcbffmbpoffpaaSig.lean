/- signal, bit, Same. -/
import Derived.Test.YtbcbffmbpoffpaaNum3
namespace Go.Proofs.Ytbcbffmbpoffpaa
open Go.RowKit Go.Lib

def bitZ (b : Bool) : Int := if b then 1 else 0
theorem encGOk : Enc Try.prog 43 2 24 encG :=
  ⟨fun _ => rfl, fun x v hv => by simp [encG] at hv; rcases hv with rfl | rfl <;> rfl, by omega, by omega, by
    obtain ⟨i0, hi, h1, h2, h3⟩ := info_parts (show (Try.prog.info? 43).map (fun i => (i.zero, i.size, i.bytes)) = some (some (.agg #[.string ⟨#[]⟩, .int .i64 0]), 2, 24) by kernel_rfl)
    exact ⟨i0, _, hi, h1, h2, h3, rfl⟩⟩
set_option maxHeartbeats 400000 in
theorem signal_any (s : ByteArray) (b : Bool) (w : World) :
    Calls Try.prog 42 #[.string s, .bool b] w fun e w' => e = .returned (.agg #[.string s, .int .i64 (bitZ b)]) ∧ Kept [] w w' := by
  cases b
  · go_enter Try.func42, Try.ntmps42
    go_wp2
    exact bodyPost_ret (v := .agg #[.string s, .int .i64 0]) (by simp [results, Try.results42, go_sem]) rfl ⟨rfl, (Kept.refl [] w).alloc _⟩
  · go_enter Try.func42, Try.ntmps42
    go_wp2
    exact bodyPost_ret (v := .agg #[.string s, .int .i64 1]) (by simp [results, Try.results42, go_sem]) rfl ⟨rfl, (Kept.refl [] w).alloc _⟩
set_option maxHeartbeats 400000 in
theorem bit_any (b : Bool) (w : World) :
    Calls Try.prog 44 #[.bool b] w fun e w' => e = .returned (.int .i64 (bitZ b)) ∧ w = w' := by
  cases b <;> (go_enter Try.func44, Try.ntmps44; go_wp2; go_ret; exact ⟨rfl, rfl⟩)
set_option maxHeartbeats 1000000 in
theorem same_any {w : World} {a b : Option Addr} {cap cap2 : Nat} {l : List Sig} (h : SigsAt w a l) (h2 : SigsAt w b l) :
    Calls Try.prog 20 #[.slice a l.length cap, .slice b l.length cap2] w fun e w' => e = .returned (.bool true) ∧ ∃ n, w' = w.drewN n := by
  have hf := h.few
  unfold maxLen at hf
  go_enter Try.func20, Try.ntmps20
  go_wp2_with fail
  go_loopw [5] (fun i wr => ∃ k n : Nat, k ≤ l.length ∧ i = .int .i64 k ∧ wr = w.drewN n) (fun i _ => l.length - (intOf i).toNat)
  case atStart => exact ⟨0, 0, Nat.zero_le _, rfl, rfl⟩
  case round =>
    obtain ⟨k, n, hk, rfl, rfl⟩ := hrel
    by_cases hlt : k < l.length
    · obtain ⟨b1, off, rfl, hb, hc0, hc1⟩ := SigsAt.get h hlt
      obtain ⟨b2, off2, rfl, hb2, hd0, hd1⟩ := SigsAt.get h2 hlt
      have hb1 : (0 : Int) ≤ k := by omega
      have hb2 : (k : Int) < l.length := by omega
      have q0 : (l[k].1 == l[k].1) = true := beq_self_eq_true _
      have q1 : (l[k].2 == l[k].2) = true := beq_self_eq_true _
      go_wp2_with (go_quiet (fail))
      go_roundw
      case rel => exact ⟨k + 1, _, by omega, by go_num, rfl⟩
      case measure => simp [intOf]; omega
    · go_wp2_with fail
      go_ret
      exact ⟨rfl, n, rfl⟩
end Go.Proofs.Ytbcbffmbpoffpaa

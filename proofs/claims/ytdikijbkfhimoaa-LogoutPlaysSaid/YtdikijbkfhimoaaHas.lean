/- Index and Contains of a list of strings. -/
import Derived.Test.YtdikijbkfhimoaaFind
namespace Go.Proofs.Ytdikijbkfhimoaa
open Go.RowKit
/-- A list has a string. -/
def eqS (x : Str) (y : Str) : Bool := y == x
def hasS (l : List Str) (x : Str) : Bool := l.any (eqS x)
theorem str_eq (s : ByteArray) (x : Str) (b : Bool) (h : eqS s.data.toList x = b) : (s.toList == x) = b ∧ (x == s.toList) = b := by
  rw [ByteArray.toList_eq]
  unfold eqS at h
  exact ⟨by rw [← h, Bool.eq_iff_iff, beq_iff_eq, beq_iff_eq]; exact eq_comm, h⟩
set_option maxHeartbeats 400000 in
theorem index_any {w : World} {a : Option Addr} {cap : Nat} {l : List Str} (h : StrsAt w a l) (s : ByteArray) :
    Calls Try.prog 70 #[.slice a l.length cap, .string s] w fun e w' => e = .returned (.int .i64 (idx (eqS s.data.toList) l)) ∧ w = w' := by
  have hf := h.few
  unfold maxLen at hf
  go_enter Try.func70, Try.ntmps70
  go_wp2_with fail
  go_loop [5, 8] (fun _ i => ∃ k : Nat, k ≤ l.length ∧ i = .int .i64 k ∧ NoneTo (eqS s.data.toList) l k) (fun _ i => l.length - (intOf i).toNat)
  case atStart => exact ⟨0, Nat.zero_le _, rfl, NoneTo.zero _ _⟩
  case round =>
    obtain ⟨k, hk, rfl, hn⟩ := hrel
    by_cases hlt : k < l.length
    · obtain ⟨b, off, rfl, hb, hc⟩ := h.get hlt
      unfold sV at hc
      have hb1 : (0 : Int) ≤ k := by omega
      have hb2 : (k : Int) < l.length := by omega
      cases hp : eqS s.data.toList l[k]
      · obtain ⟨e1, e2⟩ := str_eq _ _ _ hp
        have HP := hid hp
        clear hp
        go_wp2_with fail
        go_round
        case rel => exact ⟨k + 1, by omega, by go_num, hn.next hlt HP.out⟩
        case measure => simp [intOf]; omega
      · obtain ⟨e1, e2⟩ := str_eq _ _ _ hp
        have HP := hid hp
        clear hp
        go_wp2_with fail
        go_ret
        exact ⟨ret_int (by rw [idx_yes hn hlt HP.out]), rfl⟩
    · have hx := hid (idx_no (hn.all (by omega)))
      go_wp2_with fail
      go_ret
      exact ⟨ret_int hx.out.symm, rfl⟩
set_option maxHeartbeats 400000 in
theorem contains_any {w : World} {a : Option Addr} {cap : Nat} {l : List Str} (h : StrsAt w a l) (s : ByteArray) :
    Calls Try.prog 59 #[.slice a l.length cap, .string s] w fun e w' => e = .returned (.bool (hasS l s.data.toList)) ∧ w = w' := by
  have hg := hid (idx_ge (p := eqS s.data.toList) (l := l))
  go_enter Try.func59, Try.ntmps59
  go_wp2_with (go_at_call 70; refine (index_any h s).mono ?_; rintro e w' ⟨rfl, rfl⟩)
  go_ret
  exact ⟨ret_bool hg.out, rfl⟩
end Go.Proofs.Ytdikijbkfhimoaa

/- Contracts: numbers and calendar forms, of both sides. -/
import Derived.Test.YtjjmcmchcmfgnabDoorYear
import Derived.Test.YtjjmcmchcmfgnabDoorShelf
import Derived.Handy
namespace Go.Proofs.YtjjmcmchcmfgnabDoor
open Go.RowKit

theorem bcat (a b : List UInt8) : (⟨a.toArray⟩ : ByteArray) ++ ⟨b.toArray⟩ = ⟨(a ++ b).toArray⟩ := by
  apply ByteArray.ext
  simp
theorem ret_str {a b : ByteArray} (h : a = b) : Ending.returned (.string a) = .returned (.string b) := by rw [h]
theorem dec_len {n : Nat} (hn : n < 10) : (Lib.decDigits n).length = 1 := by rw [Lib.decDigits_one hn]; rfl
theorem itoa_small (n : Nat) (hn : n < 100) (w : World) : Calls Tryd.prog 27 #[.int .i64 (n : Int)] w fun e w' => e = .returned (.string ⟨(Lib.decDigits n).toArray⟩) ∧ w = w' :=
  (strconv_Itoa_small n hn w).mono fun _ _ h => ⟨h.1, h.2.symm⟩
set_option maxHeartbeats 400000 in
theorem two_any (n : Nat) (hn : n < 100) (w : World) :
    Calls Tryd.prog 28 #[.int .i64 (n : Int)] w fun e w' => e = .returned (.string ⟨(p2 n).toArray⟩) ∧ w = w' := by
  have E := hid (dec_p2 hn)
  have F := hid (itoa_small n hn)
  have L := hid (fun h : n < 10 => dec_len h)
  generalize Lib.decDigits n = D at *
  generalize p2 n = P at *
  by_cases h : n < 10
  · have hl := L.out h
    obtain rfl : 48 :: D = P := by rw [← E.out, if_pos h]
    clear E
    go_enter Tryd.func28, Tryd.ntmps28
    go_wp2_with (go_at_call 27; refine (F.out _).mono ?_; rintro e w' ⟨rfl, rfl⟩)
    go_ret
    exact ⟨ret_str (bcat [48] D), rfl⟩
  · obtain rfl : D = P := by rw [← E.out, if_neg h]
    clear E L
    go_enter Tryd.func28, Tryd.ntmps28
    go_wp2_with (go_at_call 27; refine (F.out _).mono ?_; rintro e w' ⟨rfl, rfl⟩)
    go_ret
    exact ⟨rfl, rfl⟩
/-! ### the reference's Int -/
/-- What is left to write of n, with the digits that are written. -/
def DInv (n : Nat) (m : Nat) (out : List UInt8) : Prop := (0 < m ∧ Lib.decDigits n = Lib.decDigits m ++ out) ∨ (m = 0 ∧ Lib.decDigits n = out)
theorem DInv.init (n : Nat) (h : 0 < n) : DInv n n [] := .inl ⟨h, by simp⟩
theorem DInv.next {n m : Nat} {out : List UInt8} (h : DInv n m out) (hm : 0 < m) : DInv n (m / 10) (dgt (m % 10) :: out) := by
  rcases h with ⟨_, h⟩ | ⟨h0, _⟩
  · by_cases h9 : m < 10
    · refine .inr ⟨by omega, ?_⟩
      rw [h, Lib.decDigits_one h9, show m % 10 = m by omega]; rfl
    · refine .inl ⟨by omega, ?_⟩
      rw [h, Lib.decDigits, dif_neg h9, List.append_assoc]; rfl
  · omega
theorem dgt_val {m : Nat} : (dgt (m % 10)).toNat = 48 + m % 10 := dgt_nat (by omega)
/-- Widening to n places. -/
theorem pad_len (n : Nat) (hn : n < 100) : (Lib.decDigits n).length = if n < 10 then 1 else 2 := by
  split
  · rw [dec_len (by assumption)]
  · rw [Lib.decDigits_two (by assumption) hn]; rfl
end Go.Proofs.YtjjmcmchcmfgnabDoor

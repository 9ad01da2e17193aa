/- Contracts: numbers and calendar forms, of both sides. -/
import Derived.Test.YtjjmcmchcmfgnaaDoorYear
import Derived.Test.YtjjmcmchcmfgnaaDoorShelf
import Derived.Handy
namespace Go.Proofs.YtjjmcmchcmfgnaaDoor
open Go.RowKit

theorem bcat (a b : List UInt8) : (⟨a.toArray⟩ : ByteArray) ++ ⟨b.toArray⟩ = ⟨(a ++ b).toArray⟩ := by
  apply ByteArray.ext
  simp
theorem ret_str {a b : ByteArray} (h : a = b) : Ending.returned (.string a) = .returned (.string b) := by rw [h]
theorem dec_len {n : Nat} (hn : n < 10) : (Lib.decDigits n).length = 1 := by rw [Lib.decDigits_one hn]; rfl
theorem itoa_small (n : Nat) (hn : n < 100) (w : World) : Calls Tryd.prog 46 #[.int .i64 (n : Int)] w fun e w' => e = .returned (.string ⟨(Lib.decDigits n).toArray⟩) ∧ w = w' :=
  (strconv_Itoa_small n hn w).mono fun _ _ h => ⟨h.1, h.2.symm⟩
set_option maxHeartbeats 400000 in
theorem two_any (n : Nat) (hn : n < 100) (w : World) :
    Calls Tryd.prog 47 #[.int .i64 (n : Int)] w fun e w' => e = .returned (.string ⟨(p2 n).toArray⟩) ∧ w = w' := by
  have E := hid (dec_p2 hn)
  have F := hid (itoa_small n hn)
  have L := hid (fun h : n < 10 => dec_len h)
  generalize Lib.decDigits n = D at *
  generalize p2 n = P at *
  by_cases h : n < 10
  · have hl := L.out h
    obtain rfl : 48 :: D = P := by rw [← E.out, if_pos h]
    clear E
    go_enter Tryd.func47, Tryd.ntmps47
    go_wp2_with (go_at_call 46; refine (F.out _).mono ?_; rintro e w' ⟨rfl, rfl⟩)
    go_ret
    exact ⟨ret_str (bcat [48] D), rfl⟩
  · obtain rfl : D = P := by rw [← E.out, if_neg h]
    clear E L
    go_enter Tryd.func47, Tryd.ntmps47
    go_wp2_with (go_at_call 46; refine (F.out _).mono ?_; rintro e w' ⟨rfl, rfl⟩)
    go_ret
    exact ⟨rfl, rfl⟩
/-! ### the reference's Int -/
/-- What is left to write of n, with the digits that are written. -/
def DInv (n : Nat) (m : Nat) (out : List UInt8) : Prop := (0 < m ∧ Lib.decDigits n = Lib.decDigits m ++ out) ∨ (m = 0 ∧ Lib.decDigits n = out)
theorem DInv.init (n : Nat) (h : 0 < n) : DInv n n [] := .inl ⟨h, by simp⟩
theorem DInv.next {n m : Nat} {out : List UInt8} (h : DInv n m out) (hm : 0 < m) : DInv n (m / 10) (dgt (m % 10) :: out) := by
  rcases h with ⟨_, h⟩ | ⟨h0, _⟩
  · by_cases h9 : m < 10
    · refine .inr ⟨by omega, ?_⟩
      rw [h, Lib.decDigits_one h9, show m % 10 = m by omega]; rfl
    · refine .inl ⟨by omega, ?_⟩
      rw [h, Lib.decDigits, dif_neg h9, List.append_assoc]; rfl
  · omega
theorem dgt_val {m : Nat} : (dgt (m % 10)).toNat = 48 + m % 10 := dgt_nat (by omega)
set_option maxHeartbeats 1000000 in
theorem rint_any (n : Nat) (hn : n < 100000) (w : World) :
    Calls Tryd.prog 56 #[.int .i64 (n : Int)] w fun e w' => e = .returned (.string ⟨(Lib.decDigits n).toArray⟩) ∧ Kept [] w w' := by
  by_cases h0 : n = 0
  · subst h0
    have E := hid (Lib.decDigits_one (i := 0) (by omega))
    go_enter Tryd.func56, Tryd.ntmps56
    go_wp2_with fail
    go_ret
    exact ⟨ret_str (by rw [E.out]; rfl), Kept.refl _ _⟩
  · have hp : 0 < n := by omega
    go_enter Tryd.func56, Tryd.ntmps56
    go_wp2_with fail
    go_loopw [3, 4] (fun o m wr => ∃ (k : Nat) (out : List UInt8), k ≤ n ∧ m = .int .i64 (k : Int) ∧ o = .string ⟨out.toArray⟩ ∧ DInv n k out ∧ out.length ≤ n - k ∧ Kept [] w wr) (fun _ m _ => (intOf m).toNat)
    case atStart => exact ⟨n, [], Nat.le_refl _, rfl, rfl, DInv.init n hp, by simp, Kept.refl _ _⟩
    case round =>
      obtain ⟨k, out, hk, rfl, rfl, hD, hl, hw⟩ := hrel
      by_cases hk0 : k = 0
      · subst hk0
        have hE := hid (show Lib.decDigits n = out by
          rcases hD with h | h
          · omega
          · exact h.2)
        clear hD
        go_wp2_with fail
        go_ret
        exact ⟨ret_str (by rw [hE.out]), hw⟩
      · have hkp : 0 < k := by omega
        have hN := hid (hD.next hkp)
        clear hD
        have hcv : (convert 73 9 (.slice (some ⟨wr.heap.size, 0, none⟩) 1 1)).run Tryd.prog (wr.alloc (.cells #[.int .u8 (48 + (k : Int) % 10)] 5)) = .ok (.string ⟨#[dgt (k % 10)]⟩) (wr.alloc (.cells #[.int .u8 (48 + (k : Int) % 10)] 5)) :=
          run_convert_bytes_back (P := Tryd.prog) _ _ _ 5 ⟨wr.heap.size, 0, none⟩ 1 [dgt (k % 10)] Tryd.underlying73 Tryd.underlying5 Tryd.underlying9 (fun j hj => by
            obtain rfl : j = 0 := by simpa using hj
            have e : ((48 + k % 10 : Nat) : Int) = 48 + (k : Int) % 10 := by omega
            have ea : (⟨wr.heap.size, 0, none⟩ : Addr).add 0 = ⟨wr.heap.size, 0, none⟩ := by simp [Addr.add]
            rw [ea, World.cell?_alloc_mark]
            rw [List.getElem_cons_zero, dgt_val, e]; rfl)
        go_wp2_with fail
        go_roundw
        case rel => exact ⟨k / 10, dgt (k % 10) :: out, by omega, by go_num, by rw [bcat]; rfl, hN.out, by simp; omega, hw.alloc _⟩
        case measure => simp [intOf]; omega
/-- Widening to n places. -/
theorem pad_len (n : Nat) (hn : n < 100) : (Lib.decDigits n).length = if n < 10 then 1 else 2 := by
  split
  · rw [dec_len (by assumption)]
  · rw [Lib.decDigits_two (by assumption) hn]; rfl
set_option maxHeartbeats 1000000 in
theorem padded2_any (n : Nat) (hn : n < 100) (w : World) :
    Calls Tryd.prog 48 #[.int .i64 (n : Int), .int .i64 2] w fun e w' => e = .returned (.string ⟨(p2 n).toArray⟩) ∧ Kept [] w w' := by
  have E := hid (dec_p2 hn)
  have F := hid (rint_any n (by omega))
  have L := hid (pad_len n hn)
  generalize Lib.decDigits n = D at *
  generalize p2 n = P at *
  by_cases h : n < 10
  · have hl : D.length = 1 := by have := L.out; rw [if_pos h] at this; exact this
    obtain rfl : 48 :: D = P := by rw [← E.out, if_pos h]
    clear E L
    go_enter Tryd.func48, Tryd.ntmps48
    go_wp2_with (go_at_call 56; refine (F.out _).mono ?_; rintro e w1 ⟨rfl, h1⟩)
    go_rounds 3
    all_goals (go_ret; exact ⟨ret_str (bcat [48] D), h1⟩)
  · have hl : D.length = 2 := by have := L.out; rw [if_neg h] at this; exact this
    obtain rfl : D = P := by rw [← E.out, if_neg h]
    clear E L
    go_enter Tryd.func48, Tryd.ntmps48
    go_wp2_with (go_at_call 56; refine (F.out _).mono ?_; rintro e w1 ⟨rfl, h1⟩)
    go_rounds 2
    all_goals (go_ret; exact ⟨rfl, h1⟩)
end Go.Proofs.YtjjmcmchcmfgnaaDoor

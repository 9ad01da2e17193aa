/- Contracts: number, before; digits of the reference. -/
import Derived.Test.YtjjmcmchcmfgnaaDoorFits
namespace Go.Proofs.YtjjmcmchcmfgnaaDoor
open Go.RowKit

theorem num_snoc (l : List UInt8) (b : UInt8) : num (l ++ [b]) = 10 * num l + dv b := by simp [num]
theorem num_take {l : List UInt8} {k : Nat} (h : k < l.length) : num (l.take (k + 1)) = 10 * num (l.take k) + dv l[k] := by
  rw [List.take_succ_eq_append_getElem h, num_snoc]
theorem num_lt {l : List UInt8} (h : l.all isd = true) : ∀ k, k ≤ l.length → num (l.take k) < 10 ^ k
  | 0, _ => by simp [num]
  | k + 1, hk => by
    rw [num_take (by omega)]
    have h1 := num_lt h k (by omega)
    have h2 : dv (l[k]'(by omega)) ≤ 9 := dv_le (List.all_eq_true.1 h _ (List.getElem_mem _))
    rw [Nat.pow_succ]
    omega
theorem num_bd {l : List UInt8} (h : l.all isd = true) (h5 : l.length ≤ 5) (k : Nat) (hk : k ≤ l.length) : num (l.take k) < 100000 :=
  Nat.lt_of_lt_of_le (num_lt h k hk) (by
    have : 10 ^ k ≤ 10 ^ 5 := Nat.pow_le_pow_right (by decide) (by omega)
    simpa using this)
theorem isd_bd {b : UInt8} (h : isd b = true) : 48 ≤ b.toNat ∧ b.toNat ≤ 57 ∧ (dv b : Int) = (b.toNat : Int) - 48 := by
  unfold isd at h
  simp at h
  unfold dv
  omega
set_option maxHeartbeats 1000000 in
theorem number_any (s : ByteArray) (hd : s.data.toList.all isd = true) (hl : s.size ≤ 5) (w : World) :
    Calls Tryd.prog 39 #[.string s] w fun e w' => e = .returned (.int .i64 (num s.data.toList : Int)) ∧ w' = w := by
  have hl2 := hid (show s.data.toList.length = s.size from rfl)
  have hd := hid hd
  go_enter Tryd.func39, Tryd.ntmps39
  go_wp2
  go_loop [3, 7] (fun n i => ∃ k : Nat, k ≤ s.size ∧ i = .int .i64 (k : Int) ∧ n = .int .i64 (num (s.data.toList.take k) : Int)) (fun _ i => s.size - (intOf i).toNat)
  case atStart => exact ⟨0, Nat.zero_le _, rfl, rfl⟩
  case round =>
    obtain ⟨k, hk, rfl, rfl⟩ := hrel
    by_cases hlt : k < s.size
    · have hb := isd_bd (List.all_eq_true.1 hd.out (s.data.toList[k]'hlt) (List.getElem_mem _))
      rw [list_get s k hlt hlt] at hb
      have hN := hid (num_take (l := s.data.toList) (k := k) hlt)
      rw [list_get s k hlt hlt] at hN
      have hV := hid hb.2.2
      have hb1 := hb.1
      have hb2 := hb.2.1
      have hbd := num_bd hd.out hl k hk
      have hbd2 := hid (num_bd hd.out hl (k + 1) hlt)
      clear hb
      generalize num (s.data.toList.take k) = N at *
      go_wp2_with fail
      go_round
      case rel => exact ⟨k + 1, by omega, by go_num, by rw [hN.out]; have := hV.out; go_num⟩
      case measure => simp [intOf]; omega
    · obtain rfl : k = s.size := by omega
      have hE := hid (show s.data.toList.take s.size = s.data.toList by rw [← hl2.out]; exact List.take_length)
      rw [hE.out]
      go_wp2_with fail
      go_ret
      exact ⟨rfl, rfl⟩
/-- The digits before k. -/
def DigTo (s : ByteArray) (k : Nat) : Prop := (s.data.toList.take k).all isd = true
theorem DigTo.zero (s : ByteArray) : DigTo s 0 := by simp [DigTo]
theorem DigTo.next {s : ByteArray} {k : Nat} (h : DigTo s k) (hk : k < s.size) (hd : isd s[k] = true) : DigTo s (k + 1) := by
  unfold DigTo at *
  rw [List.take_succ_eq_append_getElem (show k < s.data.toList.length from hk), List.all_append, h, list_get s k hk hk]
  simp [hd]
theorem DigTo.all {s : ByteArray} (h : DigTo s s.size) : s.data.toList.all isd = true := by
  unfold DigTo at h
  rwa [show s.size = s.data.toList.length from rfl, List.take_length] at h
theorem dig_no {s : ByteArray} {k : Nat} (hk : k < s.size) (hd : isd s[k] = false) : s.data.toList.all isd = false := by
  cases h : s.data.toList.all isd
  · rfl
  · have := List.all_eq_true.1 h (s.data.toList[k]'hk) (List.getElem_mem _)
    rw [list_get s k hk hk, hd] at this
    cases this
theorem num_bd2 {s : ByteArray} {k : Nat} (h : DigTo s k) (h5 : s.size ≤ 5) (hk : k ≤ s.size) : num (s.data.toList.take k) < 100000 := by
  have hl : (s.data.toList.take k).length = k := by rw [List.length_take]; exact Nat.min_eq_left hk
  have := num_bd h (by omega) k (by omega)
  rwa [List.take_take, Nat.min_self] at this
/-- What digits returns. -/
def digN (l : List UInt8) : Nat := if l.all isd = true then num l else 0
set_option maxHeartbeats 1000000 in
theorem digits_any (s : ByteArray) (hl : s.size ≤ 5) (w : World) :
    Calls Tryd.prog 42 #[.string s] w fun e w' => e = .returned (.tuple #[.int .i64 (digN s.data.toList : Int), .bool (s.data.toList.all isd)]) ∧ w' = w := by
  have hl2 := hid (show s.data.toList.length = s.size from rfl)
  obtain ⟨B, hB⟩ : ∃ B, Hid (s.data.toList.all isd = B) := ⟨_, hid rfl⟩
  obtain ⟨V, hV⟩ : ∃ V, Hid (digN s.data.toList = V) := ⟨_, hid rfl⟩
  rw [hB.out, hV.out]
  go_enter Tryd.func42, Tryd.ntmps42
  go_wp2
  go_loop [4, 5] (fun n i => ∃ k : Nat, k ≤ s.size ∧ i = .int .i64 (k : Int) ∧ n = .int .i64 (num (s.data.toList.take k) : Int) ∧ Hid (DigTo s k)) (fun _ i => s.size - (intOf i).toNat)
  case atStart => exact ⟨0, Nat.zero_le _, rfl, rfl, hid (DigTo.zero s)⟩
  case round =>
    obtain ⟨k, hk, rfl, rfl, hD⟩ := hrel
    have hk1 : (0 : Int) ≤ k := by omega
    by_cases hlt : k < s.size
    · cases hd : isd s[k]
      · obtain rfl : B = false := by rw [← hB.out]; exact dig_no hlt hd
        obtain rfl : V = 0 := by rw [← hV.out, digN, hB.out]; rfl
        clear hB hV
        have hx : s[k].toNat < 48 ∨ 57 < s[k].toNat := by unfold isd at hd; simp at hd; omega
        clear hd
        rcases hx with hx | hx
        · go_wp2_with fail
          go_ret2
          exact ⟨rfl, rfl⟩
        · go_wp2_with fail
          go_ret2
          exact ⟨rfl, rfl⟩
      · have hb := isd_bd hd
        have hN := hid (num_take (l := s.data.toList) (k := k) hlt)
        rw [list_get s k hlt hlt] at hN
        have hV := hid hb.2.2
        have hb1 := hb.1
        have hb2 := hb.2.1
        have hbd := num_bd2 hD.out hl hk
        have hDN := hid (hD.out.next hlt hd)
        clear hb hd
        generalize num (s.data.toList.take k) = N at *
        go_wp2_with fail
        go_round
        case rel => exact ⟨k + 1, by omega, by go_num, by rw [hN.out]; have := hV.out; go_num, hDN⟩
        case measure => simp [intOf]; omega
    · obtain rfl : k = s.size := by omega
      have hE := hid (show s.data.toList.take s.size = s.data.toList by rw [← hl2.out]; exact List.take_length)
      rw [hE.out]
      obtain rfl : B = true := by rw [← hB.out]; exact hD.out.all
      obtain rfl : V = num s.data.toList := by rw [← hV.out, digN, if_pos hB.out]
      go_wp2_with fail
      go_ret2
      exact ⟨rfl, rfl⟩
/-- The days of the years of a cycle. -/
theorem bf_in {y q k : Nat} (hy : 1970 + 400 * q + k = y) : (q * 146097 + (bf (1970 + k) - bf 1970) : Nat) = bf y - bf 1970 := by
  have h := bf_cycle (1970 + k) q
  rw [show 1970 + k + 400 * q = y by omega] at h
  have := bf_mono (show 1970 ≤ 1970 + k by omega)
  omega
set_option maxHeartbeats 1000000 in
theorem before_any (y : Nat) (h1 : 1970 ≤ y) (h2 : y < 100000) (w : World) :
    Calls Tryd.prog 41 #[.int .i64 (y : Int)] w fun e w' => e = .returned (.int .i64 ((bf y - bf 1970 : Nat) : Int)) ∧ w' = w := by
  obtain ⟨q, hq⟩ : ∃ q, q = (y - 1970) / 400 := ⟨_, rfl⟩
  obtain ⟨r, hr⟩ : ∃ r, r = (y - 1970) % 400 := ⟨_, rfl⟩
  have hyq : 1970 + 400 * q + r = y := by omega
  have hr4 : r < 400 := by omega
  have hq2 : q < 250 := by omega
  have hE := hid (bf_in hyq)
  have eq1 := hid (show ((y : Int) - 1970) / 400 = (q : Int) by omega)
  have eq2 := hid (show ((y : Int) - 1970) % 400 = (r : Int) by omega)
  rw [← hE.out]
  clear hq hr hE
  go_enter Tryd.func41, Tryd.ntmps41
  go_wp2
  go_loop [4, 13] (fun n i => ∃ k : Nat, k ≤ r ∧ i = .int .i64 (k : Int) ∧ n = .int .i64 ((q * 146097 + (bf (1970 + k) - bf 1970) : Nat) : Int)) (fun _ i => r - (intOf i).toNat)
  case atStart => exact ⟨0, Nat.zero_le _, rfl, by rw [eq1.out]; simp⟩
  case round =>
    obtain ⟨k, hk, rfl, rfl⟩ := hrel
    by_cases hlt : k < r
    · have hm := hid (bf_mono (show 1970 ≤ 1970 + k by omega))
      have hn := hid (bf_next (1970 + k))
      have hy2 : (1970 + k : Nat) < 100000 := by omega
      have hb : bf (1970 + k) - bf 1970 ≤ 146400 := by
        have := bf_mono (show 1970 + k ≤ 2370 by omega)
        have : bf 2370 = 865625 := by decide
        have := bf_1970
        omega
      have hyd := yd_bd (1970 + k)
      have hc := hid (fun w => yearDays_any (1970 + k) hy2 w)
      have ec : (((1970 + k : Nat) : Int)) = 1970 + (k : Int) := by omega
      rw [ec] at hc
      have hN : Hid (q * 146097 + (bf (1970 + (k + 1)) - bf 1970) = q * 146097 + (bf (1970 + k) - bf 1970) + yd (1970 + k)) := hid (by rw [← Nat.add_assoc 1970 k 1, hn.out]; have := hm.out; omega)
      have hlt2 : (k : Int) < ((y : Int) - 1970) % 400 := by rw [eq2.out]; omega
      generalize bf (1970 + k) - bf 1970 = X at *
      generalize yd (1970 + k) = D at *
      go_wp2_with (go_at_call 45; refine (hc.out _).mono ?_; rintro e w' ⟨rfl, rfl⟩)
      go_round
      case rel => exact ⟨k + 1, by omega, by go_num, by rw [hN.out]; go_num⟩
      case measure => simp [intOf]; omega
    · obtain rfl : k = r := by omega
      have hlt2 : ((y : Int) - 1970) % 400 ≤ (k : Int) := by rw [eq2.out]; omega
      go_wp2_with fail
      go_ret
      exact ⟨rfl, rfl⟩
end Go.Proofs.YtjjmcmchcmfgnaaDoor

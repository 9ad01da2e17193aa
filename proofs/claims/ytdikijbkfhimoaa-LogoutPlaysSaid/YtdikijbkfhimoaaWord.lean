/- fold.Word and the reference's Word. -/
import Derived.Test.YtdikijbkfhimoaaLeaf
namespace Go.Proofs.Ytdikijbkfhimoaa
open Go.RowKit

def upC (n : Nat) : Bool := decide (65 ≤ n) && decide (n ≤ 90)
def loC (n : Nat) : Bool := decide (97 ≤ n) && decide (n ≤ 122)
def leC (n : Nat) : Bool := upC n || loC n
def diC (n : Nat) : Bool := decide (48 ≤ n) && decide (n ≤ 57)
def woC (n : Nat) : Bool := leC n || diC n || n == 45 || n == 95 || n == 46 || n == 58

set_option maxHeartbeats 400000 in
theorem upper_any (n : Nat) (w : World) :
    Calls Try.prog 69 #[.int .u8 (n : Int)] w fun e w' => e = .returned (.bool (upC n)) ∧ w = w' := by
  go_enter Try.func69, Try.ntmps69
  go_wp2
  all_goals (go_ret; refine ⟨ret_bool ?_, rfl⟩; rw [Bool.eq_iff_iff]; simp [upC]; omega)
set_option maxHeartbeats 400000 in
theorem digit_any (n : Nat) (w : World) :
    Calls Try.prog 57 #[.int .u8 (n : Int)] w fun e w' => e = .returned (.bool (diC n)) ∧ w = w' := by
  go_enter Try.func57, Try.ntmps57
  go_wp2
  all_goals (go_ret; refine ⟨ret_bool ?_, rfl⟩; rw [Bool.eq_iff_iff]; simp [diC]; omega)
set_option maxHeartbeats 400000 in
theorem letter_any (n : Nat) (w : World) :
    Calls Try.prog 56 #[.int .u8 (n : Int)] w fun e w' => e = .returned (.bool (leC n)) ∧ w = w' := by
  go_enter Try.func56, Try.ntmps56
  go_wp2_with (go_at_call 69; refine (upper_any _ _).mono ?_; rintro e w' ⟨rfl, rfl⟩)
  all_goals (go_ret; refine ⟨ret_bool ?_, rfl⟩; rw [Bool.eq_iff_iff]; simp_all [leC, loC])
  all_goals omega
set_option maxHeartbeats 400000 in
theorem word1_any (n : Nat) (w : World) :
    Calls Try.prog 55 #[.int .u8 (n : Int)] w fun e w' => e = .returned (.bool (woC n)) ∧ w = w' := by
  go_enter Try.func55, Try.ntmps55
  go_wp2_with (first | (go_at_call 56; refine (letter_any _ _).mono ?_; rintro e w' ⟨rfl, rfl⟩) | (go_at_call 57; refine (digit_any _ _).mono ?_; rintro e w' ⟨rfl, rfl⟩))
  all_goals (go_ret; refine ⟨ret_bool ?_, rfl⟩; rw [Bool.eq_iff_iff]; simp_all [woC])
  all_goals omega

set_option maxHeartbeats 400000 in
theorem rletter_any (n : Nat) (w : World) :
    Calls Try.prog 60 #[.int .u8 (n : Int)] w fun e w' => e = .returned (.bool (leC n)) ∧ w = w' := by
  go_enter Try.func60, Try.ntmps60
  go_wp2
  all_goals (go_ret; refine ⟨ret_bool ?_, rfl⟩; rw [Bool.eq_iff_iff]; simp_all [leC, loC, upC])
  all_goals omega
set_option maxHeartbeats 400000 in
theorem rdigit_any (n : Nat) (w : World) :
    Calls Try.prog 61 #[.int .u8 (n : Int)] w fun e w' => e = .returned (.bool (diC n)) ∧ w = w' := by
  go_enter Try.func61, Try.ntmps61
  go_wp2
  all_goals (go_ret; refine ⟨ret_bool ?_, rfl⟩; rw [Bool.eq_iff_iff]; simp [diC]; omega)

/-- Every byte is allowed. -/
def allB (p : Nat → Bool) (l : List UInt8) : Bool := l.all fun c => p c.toNat
def wordB (l : List UInt8) : Bool := allB woC l && (!l.isEmpty && decide (l.length ≤ 64))

theorem take_snoc (s : ByteArray) (k : Nat) (h : k < s.size) : s.data.toList.take (k + 1) = s.data.toList.take k ++ [s[k]] := by
  rw [List.take_succ_eq_append_getElem (by simpa using h)]; rfl
theorem allB_snoc (p : Nat → Bool) (s : ByteArray) (k : Nat) (h : k < s.size) : allB p (s.data.toList.take (k + 1)) = (allB p (s.data.toList.take k) && p s[k].toNat) := by
  rw [take_snoc s k h]; simp [allB]
theorem allB_no (p : Nat → Bool) (s : ByteArray) (k : Nat) (h : k < s.size) (hp : p s[k].toNat = false) : allB p s.data.toList = false := by
  unfold allB
  rw [List.all_eq_false]
  exact ⟨s[k], by simp [ByteArray.getElem_eq_getElem_data], by simp [hp]⟩

/-- So far every byte is allowed. -/
def AllTo (p : Nat → Bool) (s : ByteArray) (k : Nat) : Prop := allB p (s.data.toList.take k) = true
theorem AllTo.zero (p : Nat → Bool) (s : ByteArray) : AllTo p s 0 := by simp [AllTo, allB]
theorem AllTo.next {p : Nat → Bool} {s : ByteArray} {k : Nat} (h : AllTo p s k) (hk : k < s.size) (hp : p s[k].toNat = true) : AllTo p s (k + 1) := by
  unfold AllTo at *; rw [allB_snoc p s k hk, h, hp]; rfl
theorem AllTo.all {p : Nat → Bool} {s : ByteArray} {k : Nat} (h : AllTo p s k) (hk : ¬ k < s.size) : allB p s.data.toList = true := by
  unfold AllTo at h; rw [List.take_of_length_le (by simp; omega)] at h; exact h
theorem wordB_no {s : ByteArray} {k : Nat} (hk : k < s.size) (hp : woC s[k].toNat = false) : wordB s.data.toList = false := by
  unfold wordB; rw [allB_no woC s k hk hp]; rfl

theorem len64 (s : ByteArray) : (!s.toList.isEmpty && decide ((s.size : Int) ≤ 64)) = (!s.data.toList.isEmpty && decide (s.data.toList.length ≤ 64)) := by
  have h : s.data.toList.length = s.size := by simp
  rw [ByteArray.toList_eq, h, show decide ((s.size : Int) ≤ 64) = decide (s.size ≤ 64) from by rw [Bool.eq_iff_iff, decide_eq_true_eq, decide_eq_true_eq]; omega]
theorem len64_pos (s : ByteArray) (h : 1 ≤ (s.size : Int)) : decide ((s.size : Int) ≤ 64) = (!s.data.toList.isEmpty && decide (s.data.toList.length ≤ 64)) := by
  rw [← len64, ByteArray.toList_eq]
  have hl : s.data.toList.length = s.size := by simp
  have : s.data.toList.isEmpty = false := by
    cases hx : s.data.toList with
    | nil => rw [hx] at hl; simp at hl; omega
    | cons a l => rfl
  rw [this]; rfl
theorem len64_zero (s : ByteArray) (h : (s.size : Int) < 1) : false = (!s.data.toList.isEmpty && decide (s.data.toList.length ≤ 64)) := by
  have hl : s.data.toList.length = s.size := by simp
  have : s.data.toList = [] := List.length_eq_zero_iff.1 (by omega)
  rw [this]; rfl
theorem woC_iff (n : Nat) : woC n = true ↔ leC n = true ∨ diC n = true ∨ (n : Int) = 45 ∨ (n : Int) = 95 ∨ (n : Int) = 46 ∨ (n : Int) = 58 := by
  have h : ∀ m : Nat, ((n : Int) = (m : Int)) ↔ n = m := fun m => by omega
  have h1 := h 45; have h2 := h 95; have h3 := h 46; have h4 := h 58
  simp only [woC, Bool.or_eq_true, beq_iff_eq]
  rw [← h1, ← h2, ← h3, ← h4]
  simp only [or_assoc]
  rfl

set_option maxHeartbeats 400000 in
theorem made_word (s : ByteArray) (w : World) (hs : s.size ≤ maxLen) :
    Calls Try.prog 54 #[.string s, .func (.func 55) #[] #[]] w fun e w' => e = .returned (.bool (wordB s.data.toList)) ∧ w = w' := by
  unfold maxLen at hs
  go_enter Try.func54, Try.ntmps54
  go_wp2
  go_loop [5, 8] (fun _ i => ∃ k : Nat, k ≤ s.size ∧ i = .int .i64 k ∧ AllTo woC s k) (fun _ i => s.size - (intOf i).toNat)
  case atStart => exact ⟨0, Nat.zero_le _, rfl, AllTo.zero _ _⟩
  case round =>
    obtain ⟨k, hk, rfl, ha⟩ := hrel
    by_cases hlt : k < s.size
    · go_wp2_with (go_at_call 55; refine (word1_any _ _).mono ?_; rintro e w' ⟨rfl, rfl⟩)
      · have h : (!woC s[k].toNat) = true := by assumption
        go_ret; exact ⟨ret_bool (by rw [wordB_no hlt (by simpa using h)]), rfl⟩
      · have h : (!woC s[k].toNat) = false := by assumption
        go_round
        case rel => exact ⟨k + 1, by omega, by go_num, ha.next hlt (by simpa using h)⟩
        case measure => simp [intOf]; omega
    · have ha' := ha.all hlt
      have hw : wordB s.data.toList = (!s.data.toList.isEmpty && decide (s.data.toList.length ≤ 64)) := by unfold wordB; rw [ha']; rfl
      have Hw := hid hw
      clear hw ha'
      go_wp2
      all_goals (go_ret; refine ⟨ret_bool ?_, rfl⟩; rw [Hw.out])
      · have h : s.toList = [] := by assumption
        rw [ByteArray.toList_eq] at h; rw [h]; rfl
      · exact len64 s

set_option maxHeartbeats 400000 in
theorem word_any (s : ByteArray) (w : World) (hs : s.size ≤ maxLen) :
    Calls Try.prog 31 #[.string s] w fun e w' => e = .returned (.bool (wordB s.data.toList)) ∧ w = w' := by
  go_enter Try.func31, Try.ntmps31
  go_wp2_with (go_at_call 54; refine (made_word _ _ hs).mono ?_; rintro e w' ⟨rfl, rfl⟩)
  go_ret
  exact ⟨rfl, rfl⟩

set_option maxHeartbeats 1000000 in
theorem rword_any (s : ByteArray) (w : World) (hs : s.size ≤ maxLen) :
    Calls Try.prog 36 #[.string s] w fun e w' => e = .returned (.bool (wordB s.data.toList)) ∧ w = w' := by
  unfold maxLen at hs
  go_enter Try.func36, Try.ntmps36
  go_wp2
  go_loop [3] (fun i => ∃ k : Nat, k ≤ s.size ∧ i = .int .i64 k ∧ AllTo woC s k) (fun i => s.size - (intOf i).toNat)
  case atStart => exact ⟨0, Nat.zero_le _, rfl, AllTo.zero _ _⟩
  case round =>
    obtain ⟨k, hk, rfl, ha⟩ := hrel
    by_cases hlt : k < s.size
    · go_wp2_with (first | (go_at_call 60; refine (rletter_any _ _).mono ?_; rintro e w' ⟨rfl, rfl⟩) | (go_at_call 61; refine (rdigit_any _ _).mono ?_; rintro e w' ⟨rfl, rfl⟩))
      all_goals first
        | (have hn : woC s[k].toNat = true := (woC_iff _).2 (by simp_all)
           go_round
           case rel => exact ⟨k + 1, by omega, by go_num, ha.next hlt hn⟩
           case measure => simp [intOf]; omega)
        | (have hn : woC s[k].toNat = false := by
             rw [← Bool.not_eq_true, woC_iff]; simp_all
           go_ret; exact ⟨ret_bool (by rw [wordB_no hlt hn]), rfl⟩)
    · have ha' := ha.all hlt
      have hw : wordB s.data.toList = (!s.data.toList.isEmpty && decide (s.data.toList.length ≤ 64)) := by unfold wordB; rw [ha']; rfl
      have Hw := hid hw
      clear hw ha'
      go_wp2
      all_goals (go_ret; refine ⟨ret_bool ?_, rfl⟩; rw [Hw.out])
      · have h : 1 ≤ (s.size : Int) := by assumption
        exact len64_pos s h
      · have h : (s.size : Int) < 1 := by assumption
        exact len64_zero s h

end Go.Proofs.Ytdikijbkfhimoaa

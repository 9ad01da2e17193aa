/- The score's numbers: contracts. -/
import Derived.Test.YtbcbffmbpoffpaaLeaf
import Derived.Test.YtbcbffmbpoffpaaRow
import Derived.Shelf.Bits.Mul64
import Derived.Laws.Externs
namespace Go.Proofs.Ytbcbffmbpoffpaa
open Go.RowKit Go.Lib

set_option maxHeartbeats 1000000 in
theorem mul64_any (x y : Nat) (hx : x < 18446744073709551616) (hy : y < 18446744073709551616) (w : World) :
    Calls Try.prog 62 #[.int .u64 x, .int .u64 y] w fun e w' => e = .returned (.tuple #[.int .u64 ((x * y / 18446744073709551616 : Nat) : Int), .int .u64 ((x * y % 18446744073709551616 : Nat) : Int)]) ∧ w = w' := by
  obtain ⟨bd, bt, bw, hhi⟩ := Lib.mul64_hi x y hx hy
  have ba := Lib.half_mul_le (a := x / 4294967296) (b := y / 4294967296) (by omega) (by omega)
  have bb := Lib.half_mul_le (a := x / 4294967296) (b := y % 4294967296) (by omega) (by omega)
  have bc := Lib.half_mul_le (a := x % 4294967296) (b := y / 4294967296) (by omega) (by omega)
  have ba' : x / 4294967296 * (y / 4294967296) < 18446744073709551616 := by omega
  have bb' : x / 4294967296 * (y % 4294967296) < 18446744073709551616 := by omega
  have bc' : x % 4294967296 * (y / 4294967296) < 18446744073709551616 := by omega
  have bh1 : x / 4294967296 * (y / 4294967296) + (x / 4294967296 * (y % 4294967296) + x % 4294967296 * (y % 4294967296) / 4294967296) / 4294967296 < 18446744073709551616 := by omega
  have bh : x / 4294967296 * (y / 4294967296) + (x / 4294967296 * (y % 4294967296) + x % 4294967296 * (y % 4294967296) / 4294967296) / 4294967296 + ((x / 4294967296 * (y % 4294967296) + x % 4294967296 * (y % 4294967296) / 4294967296) % 4294967296 + x % 4294967296 * (y / 4294967296)) / 4294967296 < 18446744073709551616 := by omega
  go_enter Try.func62, Try.ntmps62
  go_wp2
  simp only [Mul64.maskN x hx, Mul64.maskN y hy, Mul64.divN, Mul64.mulN, Mul64.addN, Mul64.wrapN _ bd, Mul64.wrapN _ bb', Mul64.wrapN _ bt, Mul64.maskN _ bt, Mul64.wrapN _ bc', Mul64.wrapN _ bw, Mul64.wrapN _ ba', Mul64.wrapN _ bh1, Mul64.wrapN _ bh, Mul64.wrapM (x * y)]
  rw [hhi]
  go_ret2
  exact ⟨rfl, rfl⟩

theorem add64_run (x y c : Int) (hx : 0 ≤ x) (hy : 0 ≤ y) (hc0 : 0 ≤ c) (hc : c ≤ 1) (w : World) :
    (callFunc 63 #[.int .u64 x, .int .u64 y, .int .u64 c]).run Try.prog w = .ok (.value (.tuple #[.int .u64 ((x + y + c) % 18446744073709551616), .int .u64 ((x + y + c) / 18446744073709551616)])) w := by
  rw [run_callFunc_extern Try.func63 (by kernel_rfl) (by kernel_rfl) (by kernel_rfl) (e := add64Entry) (by kernel_rfl), run_add64 x y c hx hy hc0 hc]
  rfl

theorem wrap_u64_nat (a : Int) : ∃ A : Nat, IntKind.u64.wrap a = (A : Int) ∧ A < 18446744073709551616 ∧ (A : Int) = a % 18446744073709551616 := by
  rw [IntKind.wrap_u64]
  exact ⟨(a % 18446744073709551616).toNat, by omega, by omega, by omega⟩
theorem sum_plain (h l H0 L0 hi X Y p : Int) (hHL : H0 * 18446744073709551616 + L0 = p + 18446744073709551616 * X + 340282366920938463463374607431768211456 * Y) (hhi : ∃ m, hi = H0 - X + m * 18446744073709551616) :
    ∃ k, ((h + hi + (l + L0) / 18446744073709551616) % 18446744073709551616) * 18446744073709551616 + (l + L0) % 18446744073709551616 = h * 18446744073709551616 + l + p + k * 340282366920938463463374607431768211456 := by
  obtain ⟨m, rfl⟩ := hhi
  exact ⟨Y + m - (h + (H0 - X + m * 18446744073709551616) + (l + L0) / 18446744073709551616) / 18446744073709551616, by omega⟩
/-- Two words hold a sum, but for multiples of 2^128. -/
def SumIs (h l V : Int) : Prop := 0 ≤ h ∧ h < 18446744073709551616 ∧ 0 ≤ l ∧ l < 18446744073709551616 ∧ ∃ k, h * 18446744073709551616 + l = V + k * 340282366920938463463374607431768211456
def SumOut (w w' : World) (e : Ending) (V : Int) : Prop := ∃ h l, e = .returned (.agg #[.int .u64 h, .int .u64 l]) ∧ SumIs h l V ∧ Kept [] w w'
theorem prod_plain (a b : Int) (A B : Nat) (H0 L0 : Int) (h1 : -9223372036854775808 ≤ a) (h2 : a ≤ 9223372036854775807) (h3 : -9223372036854775808 ≤ b) (h4 : b ≤ 9223372036854775807)
    (hA : (A : Int) = a % 18446744073709551616) (hB : (B : Int) = b % 18446744073709551616) (hHL : H0 * 18446744073709551616 + L0 = (A : Int) * B) :
    ∃ Y, H0 * 18446744073709551616 + L0 = a * b + 18446744073709551616 * ((if a < 0 then (B : Int) else 0) + (if b < 0 then (A : Int) else 0)) + 340282366920938463463374607431768211456 * Y := by
  have eA : (A : Int) = a + (if a < 0 then 18446744073709551616 else 0) := by split <;> omega
  have eB : (B : Int) = b + (if b < 0 then 18446744073709551616 else 0) := by split <;> omega
  rw [hHL]
  by_cases ha : a < 0
  · by_cases hb : b < 0
    · simp only [if_pos ha, if_pos hb] at *
      refine ⟨-1, ?_⟩
      rw [eA, eB, Int.add_mul, Int.mul_add, Int.mul_add]
      generalize a * b = p
      omega
    · simp only [if_pos ha, if_neg hb] at *
      refine ⟨0, ?_⟩
      rw [eA, eB, Int.add_mul, Int.add_zero]
      generalize a * b = p
      omega
  · by_cases hb : b < 0
    · simp only [if_neg ha, if_pos hb] at *
      refine ⟨0, ?_⟩
      rw [eA, eB, Int.mul_add, Int.add_zero]
      generalize a * b = p
      omega
    · simp only [if_neg ha, if_neg hb] at *
      refine ⟨0, ?_⟩
      rw [eA, eB, Int.add_zero, Int.add_zero]
      generalize a * b = p
      omega

set_option maxHeartbeats 1000000 in
theorem sumadd_any (h l a b : Int) (hh : 0 ≤ h) (hl : 0 ≤ l) (hl2 : l < 18446744073709551616) (h1 : -9223372036854775808 ≤ a) (h2 : a ≤ 9223372036854775807) (h3 : -9223372036854775808 ≤ b) (h4 : b ≤ 9223372036854775807) (w : World) :
    Calls Try.prog 51 #[.agg #[.int .u64 h, .int .u64 l], .int .i64 a, .int .i64 b] w fun e w' => SumOut w w' e (h * 18446744073709551616 + l + a * b) := by
  obtain ⟨A, eA, bA, mA⟩ := wrap_u64_nat a
  obtain ⟨B, eB, bB, mB⟩ := wrap_u64_nat b
  have hM := fun w => mul64_any A B bA bB w
  have hdm : ((A * B / 18446744073709551616 : Nat) : Int) * 18446744073709551616 + ((A * B % 18446744073709551616 : Nat) : Int) = (A : Int) * B := by
    have := Nat.div_add_mod (A * B) 18446744073709551616
    rw [← Int.natCast_mul]
    omega
  have b1 : A * B % 18446744073709551616 < 18446744073709551616 := Nat.mod_lt _ (by omega)
  obtain ⟨Y, hY⟩ := prod_plain a b A B _ _ h1 h2 h3 h4 mA mB hdm
  generalize A * B / 18446744073709551616 = H0 at *
  generalize A * B % 18446744073709551616 = L0 at *
  have EA := hid eA
  have EB := hid eB
  have HY := hid hY
  have HM := hid hM
  have k1 : 0 ≤ (l + L0) / 18446744073709551616 ∧ (l + L0) / 18446744073709551616 ≤ 1 := by omega
  have E1 := fun w => add64_run l L0 0 hl (by omega) (by omega) (by omega) w
  have hf := fun hi : Int => fun (hi0 : ∃ m, hi = H0 - ((if a < 0 then (B : Int) else 0) + (if b < 0 then (A : Int) else 0)) + m * 18446744073709551616) => sum_plain h l H0 L0 hi _ Y (a * b) hY hi0
  have HF := hid hf
  have E2 := fun hi : Int => fun (hi0 : 0 ≤ hi) => fun w => add64_run h hi ((l + L0) / 18446744073709551616) hh hi0 k1.1 k1.2 w
  have HE2 := hid E2
  have hr1 := hid (show 0 ≤ (l + L0) % 18446744073709551616 ∧ (l + L0) % 18446744073709551616 < 18446744073709551616 by omega)
  have hr2 := hid (show ∀ x : Int, 0 ≤ x % 18446744073709551616 ∧ x % 18446744073709551616 < 18446744073709551616 from fun x => by omega)
  have HU := hid (show ∀ x : Int, IntKind.u64.wrap x = x % 18446744073709551616 from fun x => by rw [IntKind.wrap_u64])
  rw [Int.add_zero] at E1
  generalize hC : (l + L0) / 18446744073709551616 = C at *
  generalize hS : (l + L0) % 18446744073709551616 = S at *
  clear hC hS k1 hY hM hdm E2 hf eA eB mA mB bA bB b1 h1 h2 h3 h4 hh hl hl2
  by_cases ha : a < 0
  · by_cases hb : b < 0
    · have e2 := fun w => HE2.out (IntKind.u64.wrap (IntKind.u64.wrap ((H0 : Int) - IntKind.u64.wrap b) - IntKind.u64.wrap a)) (by rw [HU.out]; omega) w
      have HK := hid (HF.out (IntKind.u64.wrap (IntKind.u64.wrap ((H0 : Int) - IntKind.u64.wrap b) - IntKind.u64.wrap a)) (by rw [if_pos ha, if_pos hb, ← EA.out, ← EB.out, HU.out (IntKind.u64.wrap _ - _), HU.out ((H0 : Int) - _)]; exact ⟨-(((H0 : Int) - IntKind.u64.wrap b) / 18446744073709551616) - ((((H0 : Int) - IntKind.u64.wrap b) % 18446744073709551616 - IntKind.u64.wrap a) / 18446744073709551616), by omega⟩))
      go_enter Try.func51, Try.ntmps51
      go_wp2_with fail
      rw [EA.out, EB.out]
      refine (HM.out _).mono ?_
      rintro e w' ⟨rfl, rfl⟩
      go_wp2_with fail
      refine bodyPost_ret (v := .agg #[.int .u64 ((h + (IntKind.u64.wrap (IntKind.u64.wrap ((H0 : Int) - IntKind.u64.wrap b) - IntKind.u64.wrap a)) + C) % 18446744073709551616), .int .u64 S]) (by simp [results, Try.results51, go_sem]) rfl ⟨_, _, rfl, ⟨(hr2.out _).1, (hr2.out _).2, hr1.out.1, hr1.out.2, HK.out⟩, ((Kept.refl [] w).alloc _).alloc _⟩
    · have e2 := fun w => HE2.out (IntKind.u64.wrap ((H0 : Int) - IntKind.u64.wrap b)) (by rw [HU.out]; omega) w
      have HK := hid (HF.out (IntKind.u64.wrap ((H0 : Int) - IntKind.u64.wrap b)) (by rw [if_pos ha, if_neg hb, ← EB.out, HU.out ((H0 : Int) - _)]; exact ⟨-(((H0 : Int) - IntKind.u64.wrap b) / 18446744073709551616), by omega⟩))
      go_enter Try.func51, Try.ntmps51
      go_wp2_with fail
      rw [EA.out, EB.out]
      refine (HM.out _).mono ?_
      rintro e w' ⟨rfl, rfl⟩
      go_wp2_with fail
      refine bodyPost_ret (v := .agg #[.int .u64 ((h + (IntKind.u64.wrap ((H0 : Int) - IntKind.u64.wrap b)) + C) % 18446744073709551616), .int .u64 S]) (by simp [results, Try.results51, go_sem]) rfl ⟨_, _, rfl, ⟨(hr2.out _).1, (hr2.out _).2, hr1.out.1, hr1.out.2, HK.out⟩, ((Kept.refl [] w).alloc _).alloc _⟩
  · by_cases hb : b < 0
    · have e2 := fun w => HE2.out (IntKind.u64.wrap ((H0 : Int) - IntKind.u64.wrap a)) (by rw [HU.out]; omega) w
      have HK := hid (HF.out (IntKind.u64.wrap ((H0 : Int) - IntKind.u64.wrap a)) (by rw [if_neg ha, if_pos hb, ← EA.out, HU.out ((H0 : Int) - _)]; exact ⟨-(((H0 : Int) - IntKind.u64.wrap a) / 18446744073709551616), by omega⟩))
      go_enter Try.func51, Try.ntmps51
      go_wp2_with fail
      rw [EA.out, EB.out]
      refine (HM.out _).mono ?_
      rintro e w' ⟨rfl, rfl⟩
      go_wp2_with fail
      refine bodyPost_ret (v := .agg #[.int .u64 ((h + (IntKind.u64.wrap ((H0 : Int) - IntKind.u64.wrap a)) + C) % 18446744073709551616), .int .u64 S]) (by simp [results, Try.results51, go_sem]) rfl ⟨_, _, rfl, ⟨(hr2.out _).1, (hr2.out _).2, hr1.out.1, hr1.out.2, HK.out⟩, ((Kept.refl [] w).alloc _).alloc _⟩
    · have e2 := fun w => HE2.out (H0 : Int) (by omega) w
      have HK := hid (HF.out (H0 : Int) (by rw [if_neg ha, if_neg hb]; exact ⟨0, by omega⟩))
      go_enter Try.func51, Try.ntmps51
      go_wp2_with fail
      rw [EA.out, EB.out]
      refine (HM.out _).mono ?_
      rintro e w' ⟨rfl, rfl⟩
      go_wp2_with fail
      refine bodyPost_ret (v := .agg #[.int .u64 ((h + (H0 : Int) + C) % 18446744073709551616), .int .u64 S]) (by simp [results, Try.results51, go_sem]) rfl ⟨_, _, rfl, ⟨(hr2.out _).1, (hr2.out _).2, hr1.out.1, hr1.out.2, HK.out⟩, ((Kept.refl [] w).alloc _).alloc _⟩
end Go.Proofs.Ytbcbffmbpoffpaa

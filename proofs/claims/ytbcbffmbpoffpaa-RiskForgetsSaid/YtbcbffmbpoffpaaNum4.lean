/- The reference's wide numbers: sum, product. -/
import Derived.Test.YtbcbffmbpoffpaaNum2
namespace Go.Proofs.Ytbcbffmbpoffpaa
open Go.RowKit Go.Lib

/-- The words of a number modulo 2^192. -/
def wd (N : Int) (k : Nat) : Int := match k with
  | 0 => N % 18446744073709551616
  | 1 => N / 18446744073709551616 % 18446744073709551616
  | _ => N / 18446744073709551616 / 18446744073709551616 % 18446744073709551616
theorem wd_bd (N : Int) (k : Nat) : 0 ≤ wd N k ∧ wd N k < 18446744073709551616 := by
  unfold wd; split <;> omega
def cellsW (N : Int) : Array Value := #[.int .u64 (wd N 0), .int .u64 (wd N 1), .int .u64 (wd N 2)]
abbrev arrW (N : Int) : Value := .agg #[.int .u64 (wd N 0), .int .u64 (wd N 1), .int .u64 (wd N 2)]
/-- Adding word by word: the carries, the sums. -/
def cyW (N M : Int) : Nat → Int
  | 0 => 0
  | k + 1 => (wd N k + wd M k + cyW N M k) / 18446744073709551616
def ouW (N M : Int) (k : Nat) : Int := (wd N k + wd M k + cyW N M k) % 18446744073709551616
theorem cyW_bd (N M : Int) : ∀ k, 0 ≤ cyW N M k ∧ cyW N M k ≤ 1
  | 0 => by simp [cyW]
  | k + 1 => by
    have := cyW_bd N M k
    have := wd_bd N k
    have := wd_bd M k
    unfold cyW; omega
theorem ouW_eq (N M : Int) : ouW N M 0 = wd (N + M) 0 ∧ ouW N M 1 = wd (N + M) 1 ∧ ouW N M 2 = wd (N + M) 2 := by
  simp only [ouW, cyW, wd]
  refine ⟨by omega, by omega, by omega⟩
def oW (N M : Int) (k : Nat) : Array Value := #[.int .u64 (if 0 < k then ouW N M 0 else 0), .int .u64 (if 1 < k then ouW N M 1 else 0), .int .u64 (if 2 < k then ouW N M 2 else 0)]
theorem oW_set (N M : Int) (k : Nat) (hk : k < 3) : (oW N M k).setIfInBounds k (.int .u64 (ouW N M k)) = oW N M (k + 1) := by
  rcases (by omega : k = 0 ∨ k = 1 ∨ k = 2) with rfl | rfl | rfl <;> rfl
theorem oW_get (N M : Int) (k : Nat) (hk : k < 3) : (oW N M k)[k]? = some (.int .u64 0) := by
  rcases (by omega : k = 0 ∨ k = 1 ∨ k = 2) with rfl | rfl | rfl <;> rfl
theorem oW_end (N M : Int) : oW N M 3 = cellsW (N + M) := by
  obtain ⟨e0, e1, e2⟩ := ouW_eq N M
  simp [oW, cellsW, e0, e1, e2]
theorem cW_get (N : Int) (k : Nat) (hk : k < 3) : (cellsW N)[k]? = some (.int .u64 (wd N k)) := by
  rcases (by omega : k = 0 ∨ k = 1 ∨ k = 2) with rfl | rfl | rfl <;> rfl

def WOut (w w' : World) (e : Ending) (N : Int) : Prop := e = .returned (arrW N) ∧ Kept [] w w'

theorem heap_four (w : World) (A B C D : Obj) : ((((w.alloc A).alloc B).alloc C).alloc D).heap[w.heap.size]? = some A ∧ ((((w.alloc A).alloc B).alloc C).alloc D).heap[w.heap.size + 1]? = some B ∧ ((((w.alloc A).alloc B).alloc C).alloc D).heap[w.heap.size + 2]? = some C ∧ ((((w.alloc A).alloc B).alloc C).alloc D).heap[w.heap.size + 3]? = some D := by
  obtain ⟨h1, h2⟩ := heap_two w A B
  obtain ⟨h3, h4⟩ := heap_two ((w.alloc A).alloc B) C D
  have k := ((Kept.refl [] ((w.alloc A).alloc B)).alloc C).alloc D
  have e : ((w.alloc A).alloc B).heap.size = w.heap.size + 2 := by simp
  rw [e] at h3 h4
  exact ⟨k.at h1 (by simp), k.at h2 (by simp), h3, h4⟩

set_option maxHeartbeats 1000000 in
set_option maxRecDepth 100000 in
theorem wsum_any (N M : Int) (w : World) :
    Calls Try.prog 52 #[arrW N, arrW M] w fun e w' => WOut w w' e (N + M) := by
  obtain ⟨q0, q1, q2, q3⟩ := heap_four w (.cells (cellsW N) 84 (0, 0)) (.cells (cellsW M) 84 (0, 0)) (.cells #[.int .u64 0, .int .u64 0, .int .u64 0] 84 (0, 0)) (.cells #[.int .u64 0, .int .u64 0, .int .u64 0] 84 (0, 0))
  have hw4 := ((((Kept.refl [] w).alloc (.cells (cellsW N) 84 (0, 0))).alloc (.cells (cellsW M) 84 (0, 0))).alloc (.cells #[.int .u64 0, .int .u64 0, .int .u64 0] 84 (0, 0))).alloc (.cells #[.int .u64 0, .int .u64 0, .int .u64 0] 84 (0, 0))
  have Q0 := hid q0
  have Q1 := hid q1
  have Q2 := hid q2
  have Q3 := hid q3
  have HW4 := hid hw4
  clear q0 q1 q2 q3 hw4
  unfold cellsW at Q0 Q1 Q2 Q3 HW4
  go_enter Try.func52, Try.ntmps52
  go_wp2_with fail
  obtain ⟨w4, hw⟩ : ∃ w4, Hid (w4 = (((w.alloc (.cells #[.int .u64 (wd N 0), .int .u64 (wd N 1), .int .u64 (wd N 2)] 84 (0, 0))).alloc (.cells #[.int .u64 (wd M 0), .int .u64 (wd M 1), .int .u64 (wd M 2)] 84 (0, 0))).alloc (.cells #[.int .u64 0, .int .u64 0, .int .u64 0] 84 (0, 0))).alloc (.cells #[.int .u64 0, .int .u64 0, .int .u64 0] 84 (0, 0))) := ⟨_, hid rfl⟩
  rw [← hw.out] at Q0 Q1 Q2 Q3 HW4 ⊢
  have hz := hid (lt_of_heap Q3.out)
  go_loopw [6, 7] (fun cv iv wr => ∃ k : Nat, k ≤ 3 ∧ iv = .int .i64 k ∧ cv = .int .u64 (cyW N M k) ∧ Kept [w.heap.size + 3] w4 wr ∧ wr.heap[w.heap.size + 3]? = some (.cells (oW N M k) 84 (0, 0))) (fun _ iv _ => 3 - (intOf iv).toNat)
  case atStart => exact ⟨0, by omega, rfl, rfl, Kept.refl _ _, Q3.out⟩
  case round =>
    obtain ⟨k, hk, rfl, rfl, hkw, hob⟩ := hrel
    by_cases hlt : k < 3
    · have ca : wr.cell? ⟨w.heap.size, k, none⟩ = some (.int .u64 (wd N k)) := by rw [cell_at (hkw.at Q0.out (by simp))]; exact cW_get N k hlt
      have cb : wr.cell? ⟨w.heap.size + 1, k, none⟩ = some (.int .u64 (wd M k)) := by rw [cell_at (hkw.at Q1.out (by simp))]; exact cW_get M k hlt
      have co : wr.cell? ⟨w.heap.size + 3, k, none⟩ = some (.int .u64 0) := by rw [cell_at hob]; exact oW_get N M k hlt
      have fo := free_at hob k
      have hb1 : (0 : Int) ≤ k := by omega
      have hb2 : (k : Int) < 3 := by omega
      have b1 := wd_bd N k
      have b2 := wd_bd M k
      have b3 := cyW_bd N M k
      have b4 := cyW_bd N M (k + 1)
      have EO := hid (show ouW N M k = (wd N k + wd M k + cyW N M k) % 18446744073709551616 from rfl)
      have EC := hid (show cyW N M (k + 1) = (wd N k + wd M k + cyW N M k) / 18446744073709551616 from rfl)
      have HS := hid (oW_set N M k hlt)
      have HOB := hid hob
      generalize wd N k = a at *
      generalize wd M k = b at *
      generalize cyW N M k = c at *
      generalize ouW N M k = o at *
      obtain ⟨s, hs, hs2⟩ : ∃ s, IntKind.u64.wrap (a + b) = s ∧ s = (a + b) % 18446744073709551616 := ⟨_, rfl, by rw [IntKind.wrap_u64]⟩
      have ho : IntKind.u64.wrap (s + c) = o := by rw [IntKind.wrap_u64, EO.out]; omega
      have H2 := hid hs2
      clear hs2
      by_cases h1 : s < a
      · by_cases h2 : o < s
        · exfalso; have := H2.out; have := EO.out; omega
        · have e1 : cyW N M (k + 1) = 1 := by have := H2.out; have := EO.out; have := EC.out; omega
          have HE1 := hid e1
          clear e1 b1 b2 b3 b4 hob
          go_wp2_with (go_quiet (fail))
          go_roundw
          case rel =>
            refine ⟨k + 1, by omega, by go_num, by rw [HE1.out], (hkw.drewN _).setCell (.inl (by simp)) _, ?_⟩
            rw [← HS.out]
            have := HOB.out
            simp [World.setCell, Array.getElem?_modify, this]
          case measure => simp [intOf]; omega
      · by_cases h2 : o < s
        · have e1 : cyW N M (k + 1) = 1 := by have := H2.out; have := EO.out; have := EC.out; omega
          have HE1 := hid e1
          clear e1 b1 b2 b3 b4 hob
          go_wp2_with (go_quiet (fail))
          go_roundw
          case rel =>
            refine ⟨k + 1, by omega, by go_num, by rw [HE1.out], (hkw.drewN _).setCell (.inl (by simp)) _, ?_⟩
            rw [← HS.out]
            have := HOB.out
            simp [World.setCell, Array.getElem?_modify, this]
          case measure => simp [intOf]; omega
        · have e1 : cyW N M (k + 1) = 0 := by have := H2.out; have := EO.out; have := EC.out; omega
          have HE1 := hid e1
          clear e1 b1 b2 b3 b4 hob
          go_wp2_with (go_quiet (fail))
          go_roundw
          case rel =>
            refine ⟨k + 1, by omega, by go_num, by rw [HE1.out], (hkw.drewN _).setCell (.inl (by simp)) _, ?_⟩
            rw [← HS.out]
            have := HOB.out
            simp [World.setCell, Array.getElem?_modify, this]
          case measure => simp [intOf]; omega
    · obtain rfl : k = 3 := by omega
      rw [oW_end] at hob
      unfold cellsW at hob
      have c0 : wr.cell? ⟨w.heap.size + 3, 0, none⟩ = some (.int .u64 (wd (N + M) 0)) := by rw [cell_at hob]; rfl
      have c1 : wr.cell? ⟨w.heap.size + 3, 1, none⟩ = some (.int .u64 (wd (N + M) 1)) := by rw [cell_at hob]; rfl
      have c2 : wr.cell? ⟨w.heap.size + 3, 2, none⟩ = some (.int .u64 (wd (N + M) 2)) := by rw [cell_at hob]; rfl
      have hr := hkw.at Q2.out (by simp)
      have d0 : wr.cell? ⟨w.heap.size + 2, 0, none⟩ = some (.int .u64 0) := by rw [cell_at hr]; rfl
      have d1 : wr.cell? ⟨w.heap.size + 2, 1, none⟩ = some (.int .u64 0) := by rw [cell_at hr]; rfl
      have d2 : wr.cell? ⟨w.heap.size + 2, 2, none⟩ = some (.int .u64 0) := by rw [cell_at hr]; rfl
      have f0 := free_at hr 0
      have f1 := free_at hr 1
      have f2 := free_at hr 2
      have HK := hid ((HW4.out.trans hkw (by simp)).mono (T := []) (by simp))
      clear hr hob
      go_wp2_with fail
      refine bodyPost_ret (v := arrW (N + M)) (by simp [results, Try.results52, go_sem, d0, d1, d2]) rfl ⟨rfl, ?_⟩
      exact ((HK.out.setCell (.inr (by simp; omega)) _).setCell (.inr (by simp; omega)) _).setCell (.inr (by simp; omega)) _

theorem wd_mod (N M : Int) (h : ∃ k, N = M + k * 6277101735386680763835789423207666416102355444464034512896) : ∀ k, wd N k = wd M k := by
  obtain ⟨m, rfl⟩ := h
  intro k
  unfold wd
  split <;> omega
set_option maxHeartbeats 400000 in
theorem ext_any (n : Int) (h1 : -9223372036854775808 ≤ n) (h2 : n ≤ 9223372036854775807) (w : World) :
    Calls Try.prog 64 #[.int .i64 n] w fun e w' => WOut w w' e n := by
  by_cases hn : n < 0
  · have E := hid (show arrW n = .agg #[.int .u64 (IntKind.u64.wrap n), .int .u64 18446744073709551615, .int .u64 18446744073709551615] by
      show Value.agg #[.int .u64 (wd n 0), .int .u64 (wd n 1), .int .u64 (wd n 2)] = _
      rw [IntKind.wrap_u64, show wd n 1 = 18446744073709551615 by simp only [wd]; omega, show wd n 2 = 18446744073709551615 by simp only [wd]; omega]
      rfl)
    clear h1 h2
    go_enter Try.func64, Try.ntmps64
    go_wp2
    refine bodyPost_ret (v := .agg #[.int .u64 (IntKind.u64.wrap n), .int .u64 18446744073709551615, .int .u64 18446744073709551615]) (by simp [results, Try.results64, go_sem]) rfl ⟨by rw [E.out], (Kept.refl [] w).alloc _⟩
  · have E := hid (show arrW n = .agg #[.int .u64 (IntKind.u64.wrap n), .int .u64 0, .int .u64 0] by
      show Value.agg #[.int .u64 (wd n 0), .int .u64 (wd n 1), .int .u64 (wd n 2)] = _
      rw [IntKind.wrap_u64, show wd n 1 = 0 by simp only [wd]; omega, show wd n 2 = 0 by simp only [wd]; omega]
      rfl)
    clear h1 h2
    go_enter Try.func64, Try.ntmps64
    go_wp2
    refine bodyPost_ret (v := .agg #[.int .u64 (IntKind.u64.wrap n), .int .u64 0, .int .u64 0]) (by simp [results, Try.results64, go_sem]) rfl ⟨by rw [E.out], (Kept.refl [] w).alloc _⟩

/-! ### product -/
/-- The product of a with the first k bits of B. -/
def prN (a : Int) (B : Nat) (k : Nat) : Int := a * ((B % 2 ^ k : Nat) : Int)
theorem prN_next (a : Int) (B k : Nat) : prN a B (k + 1) = if B / 2 ^ k % 2 = 1 then prN a B k + a * ((2 ^ k : Nat) : Int) else prN a B k := by
  unfold prN
  have h : B % 2 ^ (k + 1) = B % 2 ^ k + 2 ^ k * (B / 2 ^ k % 2) := by
    rw [Nat.pow_succ, Nat.mod_mul]
  rw [h]
  split
  · rename_i e; rw [e, Nat.mul_one, Int.natCast_add, Int.mul_add]
  · rename_i e
    rw [show B / 2 ^ k % 2 = 0 by omega, Nat.mul_zero, Nat.add_zero]
theorem shl_next (a : Int) (k : Nat) : a * ((2 ^ (k + 1) : Nat) : Int) = a * ((2 ^ k : Nat) : Int) + a * ((2 ^ k : Nat) : Int) := by
  rw [Nat.pow_succ, Nat.mul_two, Int.natCast_add, Int.mul_add]
theorem set3 {w : World} {b : Nat} {t : TypeId} {x y z : Value} (h : w.heap[b]? = some (.cells #[x, y, z] t (0, 0))) (u v s : Value) : (((w.setCell ⟨b, 0, none⟩ u).setCell ⟨b, 1, none⟩ v).setCell ⟨b, 2, none⟩ s).heap[b]? = some (.cells #[u, v, s] t (0, 0)) := by
  simp [World.setCell, Array.getElem?_modify, h]
theorem set3_far {w : World} {b c : Nat} {o : Obj} (h : w.heap[c]? = some o) (hne : c ≠ b) (u v s : Value) : (((w.setCell ⟨b, 0, none⟩ u).setCell ⟨b, 1, none⟩ v).setCell ⟨b, 2, none⟩ s).heap[c]? = some o := by
  rw [Below.heap_setCell _ _ _ _ hne, Below.heap_setCell _ _ _ _ hne, Below.heap_setCell _ _ _ _ hne]; exact h
theorem Kept.set3 {S : List Nat} {a w : World} (k : Kept S a w) {b : Nat} (hb : b ∈ S) (u v s : Value) : Kept S a (((w.setCell ⟨b, 0, none⟩ u).setCell ⟨b, 1, none⟩ v).setCell ⟨b, 2, none⟩ s) :=
  ((k.setCell (.inl hb) _).setCell (.inl hb) _).setCell (.inl hb) _
theorem bit_eq (b : Int) (k : Nat) (hk : k < 192) : (wd b (k / 64)).toNat / 2 ^ (k % 64) % 2 = (b % 6277101735386680763835789423207666416102355444464034512896).toNat / 2 ^ k % 2 := by
  generalize hB : (b % 6277101735386680763835789423207666416102355444464034512896).toNat = B
  have hb : (B : Int) = b % 6277101735386680763835789423207666416102355444464034512896 := by omega
  have hw : (wd b (k / 64)).toNat = B / 2 ^ (64 * (k / 64)) % 2 ^ 64 := by
    rcases (by omega : k / 64 = 0 ∨ k / 64 = 1 ∨ k / 64 = 2) with e | e | e <;> rw [e]
    · simp only [wd]; omega
    · simp only [wd]; omega
    · simp only [wd]
      rw [show (2 : Nat) ^ (64 * 2) = 18446744073709551616 * 18446744073709551616 by decide, ← Nat.div_div_eq_div_mul]
      omega
  rw [hw]
  have h1 : ((B / 2 ^ (64 * (k / 64)) % 2 ^ 64).testBit (k % 64)) = B.testBit k := by
    rw [Nat.testBit_mod_two_pow, Nat.testBit_div_two_pow, show k % 64 + 64 * (k / 64) = k by omega]
    simp [show k % 64 < 64 by omega]
  rw [Nat.testBit_eq_decide_div_mod_eq, Nat.testBit_eq_decide_div_mod_eq] at h1
  have h2 := Nat.mod_two_eq_zero_or_one (B / 2 ^ (64 * (k / 64)) % 2 ^ 64 / 2 ^ (k % 64))
  have h3 := Nat.mod_two_eq_zero_or_one (B / 2 ^ k)
  rcases h2 with h2 | h2 <;> rcases h3 with h3 | h3 <;> rw [h2, h3] at h1 ⊢ <;> simp at h1
theorem bit_val (b : Int) (k : Nat) (hk : k < 192) : bits .and .u64 (wd b (k / 64) / 2 ^ (k % 64)) 1 = (((b % 6277101735386680763835789423207666416102355444464034512896).toNat / 2 ^ k % 2 : Nat) : Int) := by
  have h1 := wd_bd b (k / 64)
  rw [← bit_eq b k hk]
  obtain ⟨W, hW⟩ : ∃ W : Nat, wd b (k / 64) = (W : Int) := ⟨(wd b (k / 64)).toNat, by omega⟩
  rw [hW] at h1 ⊢
  have e : (W : Int) / 2 ^ (k % 64) = ((W / 2 ^ (k % 64) : Nat) : Int) := by
    rw [Int.natCast_ediv, Int.natCast_pow]; rfl
  have hle : W / 2 ^ (k % 64) ≤ W := Nat.div_le_self _ _
  have hb := bits_and_u64_nat (W / 2 ^ (k % 64)) 1 (by omega) (by omega)
  rw [e, Int.toNat_natCast]
  rw [Nat.and_one_is_mod] at hb
  exact hb
set_option maxHeartbeats 1000000 in
set_option maxRecDepth 100000 in
theorem prod_any (a b : Int) (h1 : -9223372036854775808 ≤ a) (h2 : a ≤ 9223372036854775807) (h3 : -9223372036854775808 ≤ b) (h4 : b ≤ 9223372036854775807) (w : World) :
    Calls Try.prog 53 #[.int .i64 a, .int .i64 b] w fun e w' => WOut w w' e (a * b) := by
  have HA := hid (fun w => ext_any a h1 h2 w)
  have HB := hid (fun w => ext_any b h3 h4 w)
  clear h1 h2 h3 h4
  obtain ⟨q0, q1⟩ := heap_two w (.cells #[.int .u64 0, .int .u64 0, .int .u64 0] 84 (0, 0)) (.cells #[.int .u64 0, .int .u64 0, .int .u64 0] 84 (0, 0))
  have Q0 := hid q0
  have Q1 := hid q1
  clear q0 q1
  obtain ⟨B, HBn⟩ : ∃ B : Nat, Hid (B = (b % 6277101735386680763835789423207666416102355444464034512896).toNat) := ⟨_, hid rfl⟩
  go_enter Try.func53, Try.ntmps53
  go_wp2_with fail
  refine (HA.out _).mono ?_
  rintro e w1 ⟨rfl, k1⟩
  go_wp2_with fail
  refine (HB.out _).mono ?_
  rintro e w2 ⟨rfl, k2⟩
  go_wp2_with fail
  have k02 := k1.step k2 (by simp)
  obtain ⟨q2, q3⟩ := heap_two w2 (.cells (cellsW a) 84 (0, 0)) (.cells (cellsW b) 84 (0, 0))
  have k24 := ((Kept.refl [] w2).alloc (.cells (cellsW a) 84 (0, 0))).alloc (.cells (cellsW b) 84 (0, 0))
  have q0 := k24.at (k02.at Q0.out (by simp)) (by simp)
  have q1 := k24.at (k02.at Q1.out (by simp)) (by simp)
  have hz : w.heap.size + 2 ≤ w2.heap.size := by simpa using k02.size
  have kw := ((((Kept.refl [] w).alloc _).alloc _).step k02 (by simp)).step k24 (by simp)
  unfold cellsW at q0 q1 q2 q3 k24 kw
  generalize w2.heap.size = xb at *
  generalize (w2.alloc (.cells #[.int .u64 (wd a 0), .int .u64 (wd a 1), .int .u64 (wd a 2)] 84 (0, 0))).alloc (.cells #[.int .u64 (wd b 0), .int .u64 (wd b 1), .int .u64 (wd b 2)] 84 (0, 0)) = w4 at *
  have P0 := hid q0
  have P1 := hid q1
  have P2 := hid q2
  have P3 := hid q3
  have KW := hid kw
  clear q0 q1 q2 q3 kw k24 k02 k1 k2 Q0 Q1 HA HB
  go_loopw [8] (fun iv wr => ∃ k : Nat, k ≤ 192 ∧ iv = .int .i64 k ∧ Kept [w.heap.size + 1, xb] w4 wr ∧ wr.heap[w.heap.size + 1]? = some (.cells (cellsW (prN a B k)) 84 (0, 0)) ∧ wr.heap[xb]? = some (.cells (cellsW (a * ((2 ^ k : Nat) : Int))) 84 (0, 0))) (fun iv _ => 192 - (intOf iv).toNat)
  case atStart => exact ⟨0, by omega, rfl, Kept.refl _ _, by simpa [prN, Nat.mod_one, cellsW, wd] using P1.out, by simpa [cellsW] using P2.out⟩
  case round =>
    obtain ⟨k, hk, rfl, hkw, hob, hxb⟩ := hrel
    by_cases hlt : k < 192
    · have cy : wr.cell? ⟨xb + 1, k / 64, none⟩ = some (.int .u64 (wd b (k / 64))) := by rw [cell_at (hkw.at P3.out (by simp; omega))]; exact cW_get b _ (by omega)
      have hb1 : (0 : Int) ≤ k := by omega
      have hb2 : (k : Int) < 192 := by omega
      have c0 : wr.cell? ⟨w.heap.size + 1, 0, none⟩ = some (.int .u64 (wd (prN a B k) 0)) := by rw [cell_at hob]; rfl
      have c1 : wr.cell? ⟨w.heap.size + 1, 1, none⟩ = some (.int .u64 (wd (prN a B k) 1)) := by rw [cell_at hob]; rfl
      have c2 : wr.cell? ⟨w.heap.size + 1, 2, none⟩ = some (.int .u64 (wd (prN a B k) 2)) := by rw [cell_at hob]; rfl
      have hv := bit_val b k hlt
      rw [← HBn.out] at hv
      have Hn := hid (prN_next a B k)
      have Hs := hid (shl_next a k)
      have HX1 := hid hxb
      have HO1 := hid hob
      have hzx : w.heap.size + 1 ≠ xb := by omega
      generalize hXX : a * ((2 ^ k : Nat) : Int) = X at *
      generalize hPP : prN a B k = R at *
      by_cases hbit : B / 2 ^ k % 2 = 1
      · have hb : (bits .and .u64 (wd b (k / 64) / 2 ^ (k % 64)) 1 == 1) = true := by rw [hv, hbit]; rfl
        have x0 : wr.cell? ⟨xb, 0, none⟩ = some (.int .u64 (wd X 0)) := by rw [cell_at hxb]; rfl
        have x1 : wr.cell? ⟨xb, 1, none⟩ = some (.int .u64 (wd X 1)) := by rw [cell_at hxb]; rfl
        have x2 : wr.cell? ⟨xb, 2, none⟩ = some (.int .u64 (wd X 2)) := by rw [cell_at hxb]; rfl
        have Hn2 := hid (Hn.out.trans (if_pos hbit))
        have HBI := hid hbit
        clear hbit hv hXX hPP hxb hob
        go_wp2_with fail
        refine (wsum_any R X _).mono ?_
        rintro e w5 ⟨rfl, k5⟩
        clear c0 c1 c2 x0 x1 x2
        have hx5 := k5.at (i := xb) HX1.out (by simp)
        have ho5 := k5.at (i := w.heap.size + 1) HO1.out (by simp)
        have c0 : w5.cell? ⟨w.heap.size + 1, 0, none⟩ = some (.int .u64 (wd R 0)) := by rw [cell_at ho5]; rfl
        have c1 : w5.cell? ⟨w.heap.size + 1, 1, none⟩ = some (.int .u64 (wd R 1)) := by rw [cell_at ho5]; rfl
        have c2 : w5.cell? ⟨w.heap.size + 1, 2, none⟩ = some (.int .u64 (wd R 2)) := by rw [cell_at ho5]; rfl
        have g0 := free_at ho5 0
        have g1 := free_at ho5 1
        have g2 := free_at ho5 2
        have x0 : w5.cell? ⟨xb, 0, none⟩ = some (.int .u64 (wd X 0)) := by rw [cell_at hx5]; rfl
        have x1 : w5.cell? ⟨xb, 1, none⟩ = some (.int .u64 (wd X 1)) := by rw [cell_at hx5]; rfl
        have x2 : w5.cell? ⟨xb, 2, none⟩ = some (.int .u64 (wd X 2)) := by rw [cell_at hx5]; rfl
        have HX5 := hid hx5
        have HO5 := hid ho5
        clear hx5 ho5
        go_wp2_with fail
        clear g0 g1 g2
        refine (wsum_any X X _).mono ?_
        rintro e w6 ⟨rfl, k6⟩
        clear x0 x1 x2
        have hx6 := k6.at (i := xb) (set3_far HX5.out (by omega) _ _ _) (by simp)
        have x0 : w6.cell? ⟨xb, 0, none⟩ = some (.int .u64 (wd X 0)) := by rw [cell_at hx6]; rfl
        have x1 : w6.cell? ⟨xb, 1, none⟩ = some (.int .u64 (wd X 1)) := by rw [cell_at hx6]; rfl
        have x2 : w6.cell? ⟨xb, 2, none⟩ = some (.int .u64 (wd X 2)) := by rw [cell_at hx6]; rfl
        have g0 := free_at hx6 0
        have g1 := free_at hx6 1
        have g2 := free_at hx6 2
        have HX6 := hid hx6
        clear hx6
        clear c0 c1 c2
        go_wp2_with fail
        go_roundw
        case rel =>
          refine ⟨k + 1, by omega, by go_num, ((((hkw.step k5 (by simp)).set3 (by simp) _ _ _).step k6 (by simp)).set3 (by simp) _ _ _), ?_, ?_⟩
          · rw [Hn2.out]
            exact set3_far (k6.at (set3 HO5.out _ _ _) (by simp)) (by omega) _ _ _
          · rw [Hs.out]
            exact set3 HX6.out _ _ _
        case measure => simp [intOf]; omega
      · have hbit0 : B / 2 ^ k % 2 = 0 := by omega
        have hb : (bits .and .u64 (wd b (k / 64) / 2 ^ (k % 64)) 1 == 1) = false := by rw [hv, hbit0]; rfl
        have x0 : wr.cell? ⟨xb, 0, none⟩ = some (.int .u64 (wd X 0)) := by rw [cell_at hxb]; rfl
        have x1 : wr.cell? ⟨xb, 1, none⟩ = some (.int .u64 (wd X 1)) := by rw [cell_at hxb]; rfl
        have x2 : wr.cell? ⟨xb, 2, none⟩ = some (.int .u64 (wd X 2)) := by rw [cell_at hxb]; rfl
        have Hn2 := hid (Hn.out.trans (if_neg hbit))
        clear hbit hbit0 hv hXX hPP hxb hob c0 c1 c2
        go_wp2_with fail
        refine (wsum_any X X _).mono ?_
        rintro e w6 ⟨rfl, k6⟩
        clear x0 x1 x2
        have hx6 := k6.at (i := xb) HX1.out (by simp)
        have x0 : w6.cell? ⟨xb, 0, none⟩ = some (.int .u64 (wd X 0)) := by rw [cell_at hx6]; rfl
        have x1 : w6.cell? ⟨xb, 1, none⟩ = some (.int .u64 (wd X 1)) := by rw [cell_at hx6]; rfl
        have x2 : w6.cell? ⟨xb, 2, none⟩ = some (.int .u64 (wd X 2)) := by rw [cell_at hx6]; rfl
        have g0 := free_at hx6 0
        have g1 := free_at hx6 1
        have g2 := free_at hx6 2
        have HX6 := hid hx6
        clear hx6
        go_wp2_with fail
        go_roundw
        case rel =>
          refine ⟨k + 1, by omega, by go_num, ((hkw.step k6 (by simp)).set3 (by simp) _ _ _), ?_, ?_⟩
          · rw [Hn2.out]
            exact set3_far (k6.at HO1.out (by simp)) (by omega) _ _ _
          · rw [Hs.out]
            exact set3 HX6.out _ _ _
        case measure => simp [intOf]; omega
    · obtain rfl : k = 192 := by omega
      have hE := hid (show cellsW (prN a B 192) = #[.int .u64 (wd (a * b) 0), .int .u64 (wd (a * b) 1), .int .u64 (wd (a * b) 2)] by
        have hm : ∃ m, prN a B 192 = a * b + m * 6277101735386680763835789423207666416102355444464034512896 := by
          have hBl : B < 2 ^ 192 := by rw [HBn.out, show (2 : Nat) ^ 192 = 6277101735386680763835789423207666416102355444464034512896 by decide]; omega
          unfold prN
          rw [Nat.mod_eq_of_lt hBl, show (B : Int) = b - b / 6277101735386680763835789423207666416102355444464034512896 * 6277101735386680763835789423207666416102355444464034512896 by rw [HBn.out]; omega]
          refine ⟨-(a * (b / 6277101735386680763835789423207666416102355444464034512896)), ?_⟩
          rw [Int.mul_sub, ← Int.mul_assoc, Int.neg_mul]
          omega
        have hw := wd_mod _ _ hm
        unfold cellsW
        rw [hw, hw, hw])
      rw [hE.out] at hob
      have c0 : wr.cell? ⟨w.heap.size + 1, 0, none⟩ = some (.int .u64 (wd (a * b) 0)) := by rw [cell_at hob]; rfl
      have c1 : wr.cell? ⟨w.heap.size + 1, 1, none⟩ = some (.int .u64 (wd (a * b) 1)) := by rw [cell_at hob]; rfl
      have c2 : wr.cell? ⟨w.heap.size + 1, 2, none⟩ = some (.int .u64 (wd (a * b) 2)) := by rw [cell_at hob]; rfl
      have hr := hkw.at P0.out (by simp; omega)
      have d0 : wr.cell? ⟨w.heap.size, 0, none⟩ = some (.int .u64 0) := by rw [cell_at hr]; rfl
      have d1 : wr.cell? ⟨w.heap.size, 1, none⟩ = some (.int .u64 0) := by rw [cell_at hr]; rfl
      have d2 : wr.cell? ⟨w.heap.size, 2, none⟩ = some (.int .u64 0) := by rw [cell_at hr]; rfl
      have f0 := free_at hr 0
      have f1 := free_at hr 1
      have f2 := free_at hr 2
      have HK := hid (KW.out.trans hkw (fun i hi => by simp at hi; right; omega))
      clear hr hob hxb hkw
      go_wp2_with fail
      refine bodyPost_ret (v := arrW (a * b)) (by simp [results, Try.results53, go_sem, d0, d1, d2]) rfl ⟨rfl, ?_⟩
      exact ((HK.out.setCell (.inr (by simp)) _).setCell (.inr (by simp)) _).setCell (.inr (by simp)) _
end Go.Proofs.Ytbcbffmbpoffpaa
